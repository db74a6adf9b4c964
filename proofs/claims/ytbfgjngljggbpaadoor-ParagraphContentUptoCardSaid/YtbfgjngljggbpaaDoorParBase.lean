/-
  The walks of Total, great, Same and of the example; an argument that is a slice of strings.
-/
import Derived.Test.YtbfgjngljggbpaaDoorParWrap
import Derived.SliceStrings
import Derived.Carry
import Derived.ProofKit
namespace Go.Proofs.YtbfgjngljggbpaaDoor
open Go.RowKit Go.WideShapes Go.ChangeShapes Go.ChangeAt

def totalL (ws : List (List UInt8)) : Nat := (ws.map fun x => x.length + 10).sum
def bulkL (ws : List (List UInt8)) : Nat := (ws.map fun x => x.length + 1).sum
theorem totalL_take_succ (ws : List (List UInt8)) (k : Nat) (x : List UInt8) (h : ws[k]? = some x) : totalL (ws.take (k + 1)) = totalL (ws.take k) + 10 + x.length := by
  rw [List.take_add_one, h]
  simp [totalL]
  omega
theorem totalL_le : ∀ ws : List (List UInt8), totalL ws ≤ 10 * bulkL ws
  | [] => Nat.le_refl _
  | x :: r => by
    have := totalL_le r
    simp only [totalL, bulkL, List.map_cons, List.sum_cons] at this ⊢
    omega
theorem bulkL_append (a b : List (List UInt8)) : bulkL (a ++ b) = bulkL a + bulkL b := by simp [bulkL]
theorem bulkL_take (ws : List (List UInt8)) (k : Nat) : bulkL (ws.take k) ≤ bulkL ws := by
  have h := congrArg bulkL (List.take_append_drop k ws)
  rw [bulkL_append] at h
  omega
theorem bulkL_len : ∀ ws : List (List UInt8), ws.length ≤ bulkL ws
  | [] => Nat.le_refl _
  | x :: r => by
    have := bulkL_len r
    simp only [bulkL, List.map_cons, List.sum_cons, List.length_cons] at this ⊢
    omega
theorem bulkL_mem : ∀ {ws : List (List UInt8)} {x : List UInt8}, x ∈ ws → x.length ≤ bulkL ws
  | y :: r, x, h => by
    simp only [bulkL, List.map_cons, List.sum_cons]
    rcases List.mem_cons.1 h with rfl | h
    · omega
    · have := bulkL_mem h
      simp only [bulkL] at this
      omega

set_option maxHeartbeats 1000000 in
theorem total_any (ao : Option Addr) (n cap : Nat) (ws : List (List UInt8)) (w : World) (hr : Strs w ao n ws) (hb : bulkL ws ≤ 1048576) :
    Calls Tryd.prog 14 #[.slice ao n cap] w fun e w' => e = .returned (.int .i64 (totalL ws)) ∧ w = w' := by
  obtain ⟨rfl, hr⟩ := hr
  have HR := Lib.hid hr
  have HB := Lib.hid hb
  have hn := bulkL_len ws
  clear hr
  obtain ⟨T, hT⟩ : ∃ T, totalL ws = T := ⟨_, rfl⟩
  have HT := Lib.hid hT
  rw [hT]
  clear hT
  go_enter Tryd.func14, Tryd.ntmps14
  go_wp2_with fail
  go_loop [3, 4] (fun t i => ∃ (k z : Nat), k ≤ ws.length ∧ i = .int .i64 k ∧ t = .int .i64 z ∧ Hid (totalL (ws.take k) = z)) (fun _ i => ws.length - (intOf i).toNat)
  case atStart => exact ⟨0, 0, Nat.zero_le _, rfl, rfl, Lib.hid rfl⟩
  case round =>
    obtain ⟨k, z, hk, rfl, rfl, hz⟩ := hrel
    by_cases hlt : k < ws.length
    · obtain ⟨x, hx⟩ : ∃ x, ws[k]? = some x := ⟨_, List.getElem?_eq_getElem hlt⟩
      obtain ⟨b1, o1, rfl, hc1⟩ := HR.out k x hx
      have hst := totalL_take_succ ws k x hx
      rw [hz.out] at hst
      have h1 := totalL_le (ws.take (k + 1))
      have h2 := bulkL_take ws (k + 1)
      have h3 := HB.out
      have hsz : (⟨x.toArray⟩ : ByteArray).size = x.length := mk_size x
      have hzb : z + 10 + x.length ≤ 10485760 := by omega
      have HST := Lib.hid hst
      generalize (⟨x.toArray⟩ : ByteArray) = X at *
      rw [← hsz] at hzb
      have HSZ := Lib.hid hsz
      clear hst h1 h2 h3 hx hsz
      go_wp2_with fail
      go_round
      case rel => exact ⟨k + 1, z + 10 + X.size, by omega, by go_num, by go_num, by show _ = _; rw [HST.out, HSZ.out]⟩
      case measure => simp [intOf]; omega
    · obtain rfl : k = ws.length := by omega
      have h := hz.out
      rw [List.take_length, HT.out] at h
      subst h
      go_wp2_with fail
      go_ret
      exact ⟨rfl, rfl⟩

theorem great_any (ao : Option Addr) (n cap : Nat) (ws : List (List UInt8)) (w : World) (hr : Strs w ao n ws) (hb : bulkL ws ≤ 1048576) :
    Calls Tryd.prog 5 #[.slice ao n cap] w fun e w' => e = .returned (.bool (decide (800 < totalL ws))) ∧ w = w' := by
  have ht := fun w hr => total_any ao n cap ws w hr hb
  generalize totalL ws = T at *
  go_enter Tryd.func5, Tryd.ntmps5
  go_wp2_with fail
  refine (ht _ hr).mono ?_
  rintro e w1 ⟨rfl, rfl⟩
  go_wp2_with fail
  go_ret
  exact ⟨by simp; omega, rfl⟩

set_option maxHeartbeats 1000000 in
theorem same02_any (a1 a2 : Option Addr) (n1 c1 n2 c2 : Nat) (xs ys : List (List UInt8)) (w : World) (h1 : Strs w a1 n1 xs) (h2 : Strs w a2 n2 ys) (hn : n1 ≤ 9223372036854775807) (hn2 : n2 ≤ 9223372036854775807) :
    Calls Tryd.prog 9 #[.slice a1 n1 c1, .slice a2 n2 c2] w fun e w' => e = .returned (.bool (xs == ys)) ∧ ∃ q, w' = w.drewN q := by
  obtain ⟨rfl, h1⟩ := h1
  obtain ⟨rfl, h2⟩ := h2
  obtain ⟨E, hE⟩ : ∃ E, (xs == ys) = E := ⟨_, rfl⟩
  have HE := Lib.hid hE
  rw [hE]
  clear hE
  by_cases hl : xs.length = ys.length
  rotate_left
  · have hne : ((xs.length : Int) != (ys.length : Int)) = true := by rw [bne_iff_ne]; omega
    go_enter Tryd.func9, Tryd.ntmps9
    go_wp2_with fail
    go_ret
    refine ⟨?_, 0, rfl⟩
    rw [← HE.out, beq_len hl]
    rfl
  have hne : ((xs.length : Int) != (ys.length : Int)) = false := by rw [bne_eq_false_iff_eq]; omega
  have HL := Lib.hid hl
  clear hl
  have H1 := Lib.hid h1
  have H2 := Lib.hid h2
  clear h1 h2
  go_enter Tryd.func9, Tryd.ntmps9
  go_wp2_with fail
  go_loopw [5] (fun i wr => ∃ k m : Nat, k ≤ xs.length ∧ i = .int .i64 k ∧ Hid ((xs.take k == ys.take k) = true) ∧ wr = w.drewN m) (fun i _ => xs.length - (intOf i).toNat)
  case atStart => exact ⟨0, 0, Nat.zero_le _, rfl, by show _ = true; simp, rfl⟩
  case round =>
    obtain ⟨k, m, hk, rfl, hok, rfl⟩ := hrel
    by_cases hlt : k < xs.length
    · have hlt2 : k < ys.length := by rw [← HL.out]; exact hlt
      obtain ⟨x, hx⟩ : ∃ x, xs[k]? = some x := ⟨_, List.getElem?_eq_getElem hlt⟩
      obtain ⟨y, hy⟩ : ∃ y, ys[k]? = some y := ⟨_, List.getElem?_eq_getElem hlt2⟩
      obtain ⟨b1, o1, rfl, hc1⟩ := H1.out k x hx
      obtain ⟨b2, o2, rfl, hc2⟩ := H2.out k y hy
      have HS := Lib.hid (take_beq hx hy)
      have HB := Lib.hid (str_beq x y)
      generalize (⟨x.toArray⟩ : ByteArray) = X at hc1 HB
      generalize (⟨y.toArray⟩ : ByteArray) = Y at hc2 HB
      clear hx hy
      cases hb : (X.toList == Y.toList)
      · go_wp2_with fail
        go_quiet (fail)
        go_wp2_with fail
        go_ret
        refine ⟨?_, m + nq, by simp [World.drewN_drewN]⟩
        rw [← HE.out, beq_of_take (k := k + 1) (by rw [HS.out, hok.out, ← HB.out, hb]; rfl)]
        rfl
      · go_wp2_with fail
        go_quiet (fail)
        go_wp2_with fail
        go_roundw
        case rel => exact ⟨k + 1, _, by omega, by go_num, by show _ = true; rw [HS.out, hok.out, ← HB.out, hb]; rfl, rfl⟩
        case measure => simp [intOf]; omega
    · obtain rfl : k = xs.length := by omega
      have h := hok.out
      rw [List.take_length, HL.out, List.take_length] at h
      have H := Lib.hid h
      clear h
      go_wp2_with fail
      go_ret
      refine ⟨?_, _, rfl⟩
      rw [← HE.out, H.out]
      rfl

set_option maxHeartbeats 2000000 in
theorem awake50_any (w : World) : Calls Tryd.prog 6 #[] w fun e w' => e = .returned (.bool true) ∧ Below w.heap.size w w' := by
  have hL : ∀ w : World, Own (w.alloc (.cells #[.string ⟨#[116, 111]⟩, .string ⟨#[98, 101]⟩, .string ⟨#[111, 114]⟩, .string ⟨#[97, 98, 99, 100, 101, 102, 103, 104, 105, 106]⟩] 9)) w.heap.size 9 (.slice (some ⟨w.heap.size, 0, none⟩) 4 4) (strsL [[116, 111], [98, 101], [111, 114], [97, 98, 99, 100, 101, 102, 103, 104, 105, 106]]) := fun w => Own.lit w w.heap.size 9 _ 4 (Nat.le_refl _) (by decide) rfl
  have hM : ∀ w : World, Own (w.alloc (.cells #[.string ⟨#[116, 111, 32, 98, 101]⟩, .string ⟨#[111, 114]⟩, .string ⟨#[97, 98, 99, 100, 101]⟩, .string ⟨#[102, 103, 104, 105, 106]⟩] 9)) w.heap.size 9 (.slice (some ⟨w.heap.size, 0, none⟩) 4 4) (strsL [[116, 111, 32, 98, 101], [111, 114], [97, 98, 99, 100, 101], [102, 103, 104, 105, 106]]) := fun w => Own.lit w w.heap.size 9 _ 4 (Nat.le_refl _) (by decide) rfl
  have e1 : Par.perr [[116, 111], [98, 101], [111, 114], [97, 98, 99, 100, 101, 102, 103, 104, 105, 106]] 5 = 0 := by decide +kernel
  have e3 : Par.pieces 5 [[116, 111], [98, 101], [111, 114], [97, 98, 99, 100, 101, 102, 103, 104, 105, 106]] = [[116, 111], [98, 101], [111, 114], [97, 98, 99, 100, 101], [102, 103, 104, 105, 106]] := by
    simp [Par.pieces, Par.chop_short, Par.chop_long]
  have e2 : Par.wrap 5 [[116, 111], [98, 101], [111, 114], [97, 98, 99, 100, 101, 102, 103, 104, 105, 106]] = [[116, 111, 32, 98, 101], [111, 114], [97, 98, 99, 100, 101], [102, 103, 104, 105, 106]] := by
    rw [Par.wrap, e3]
    decide +kernel
  have hw := fun w => wrap_ok (some ⟨w.heap.size, 0, none⟩) 4 4 _ 5 _ (hL w).read (by decide) (by decide) e1 (by rw [e3]; decide)
  rw [e2] at hw
  clear e1 e2 e3
  have hc5 : ((5 : Nat) : Int) = 5 := rfl
  rw [hc5] at hw
  go_enter Tryd.func6, Tryd.ntmps6
  go_wp2_with fail
  refine (hw _).mono ?_
  rintro e w1 ⟨v, rfl, ho, hb⟩
  obtain ⟨ao, cap, rfl, _⟩ := ho.form
  have hb2 : Below w.heap.size w w1 := ((Below.refl _ w).alloc (Nat.le_refl _) _).trans (hb.mono (by simp))
  have hs := same02_any ao (some ⟨w1.heap.size, 0, none⟩) 4 cap 4 4 _ _ _ (ho.alloc _).read (hM w1).read (by decide) (by decide)
  rw [beq_self_eq_true] at hs
  have e6 : (strsL [[116, 111, 32, 98, 101], [111, 114], [97, 98, 99, 100, 101], [102, 103, 104, 105, 106]]).length = 4 := rfl
  rw [e6]
  clear hw hL hM hc5
  go_wp2_with fail
  refine hs.mono ?_
  rintro e w2 ⟨rfl, q, rfl⟩
  go_wp2_with fail
  go_ret
  exact ⟨rfl, below_drewN (hb2.alloc hb2.size _) q⟩

/-- The value is a slice that reads as the strings ws. -/
def Words (w : World) (v : Value) (ws : List (List UInt8)) : Prop := ∃ ao cap, v = .slice ao ws.length cap ∧ ws.length ≤ cap ∧ cap ≤ maxLen ∧ Strs w ao ws.length ws ∧ bulkL ws ≤ 1048576
end Go.Proofs.YtbfgjngljggbpaaDoor
