/-
  The walks of viterbi.check and viterbi.Decode.
-/
import Derived.Test.YtnklgppfggkeoaaDoorVitSt
import Derived.Test.YtnklgppfggkeoaaDoorVitLaws
import Derived.Test.YtnklgppfggkeoaaDoorCells
namespace Go.Proofs.YtnklgppfggkeoaaDoor
open Go.RowKit

def vErr (l : List UInt8) : Int := if Cells.ok l = true then (if l.length % 2 = 0 ∧ 4 ≤ l.length then 0 else 4) else 3
theorem vcheck_any (s : ByteArray) (w : World) (hs : s.size ≤ 9223372036854775807) :
    Calls Tryd.prog 24 #[.string s] w fun e w' => e = .returned (.int .i64 (vErr s.data.toList)) ∧ Below w.heap.size w w' := by
  have hl := toList_length s
  have hc := fun w => check_any s w hs
  cases hok : Cells.ok s.data.toList
  · have e1 : Cells.err s.data.toList = 3 := by unfold Cells.err; rw [hok]; rfl
    have e2 : vErr s.data.toList = 3 := by unfold vErr; rw [if_neg (by rw [hok]; decide)]
    rw [e1] at hc
    rw [e2]
    have HC := Lib.hid hc
    clear hc e1 e2 hok
    go_enter Tryd.func24, Tryd.ntmps24
    go_wp2_with fail
    refine (HC.out _).mono ?_
    rintro e w1 ⟨rfl, hb1⟩
    go_wp2_with fail
    go_ret
    exact ⟨rfl, hb1⟩
  · have e1 : Cells.err s.data.toList = 0 := by unfold Cells.err; rw [hok]; rfl
    rw [e1] at hc
    have HC := Lib.hid hc
    by_cases h2 : s.size % 2 = 0 ∧ 4 ≤ s.size
    · have e2 : vErr s.data.toList = 0 := by unfold vErr; rw [if_pos hok, if_pos (by rw [hl]; exact h2)]
      rw [e2]
      have hn : ((s.size : Int) % 2 != 0) = false := by rw [bne_eq_false_iff_eq]; omega
      have h4 : 4 ≤ s.size := h2.2
      clear hc e1 e2 hok h2
      go_enter Tryd.func24, Tryd.ntmps24
      go_wp2_with fail
      refine (HC.out _).mono ?_
      rintro e w1 ⟨rfl, hb1⟩
      go_wp2_with fail
      go_ret
      exact ⟨rfl, hb1⟩
    · have e2 : vErr s.data.toList = 4 := by unfold vErr; rw [if_pos hok, if_neg (by rw [hl]; exact h2)]
      rw [e2]
      have hn : (((s.size : Int) % 2 != 0) = true) ∨ (((s.size : Int) % 2 != 0) = false ∧ (s.size : Int) < 4) := by
        by_cases e : s.size % 2 = 0
        · right
          refine ⟨by rw [bne_eq_false_iff_eq]; omega, by omega⟩
        · left
          rw [bne_iff_ne]
          omega
      clear hc e1 e2 hok h2
      rcases hn with hn | ⟨hn, hn2⟩
      all_goals
        go_enter Tryd.func24, Tryd.ntmps24
        go_wp2_with fail
        refine (HC.out _).mono ?_
        rintro e w1 ⟨rfl, hb1⟩
        go_wp2_with fail
        go_ret
        exact ⟨rfl, hb1⟩

theorem decode_bad (s : ByteArray) (w : World) (hs : s.size ≤ 9223372036854775807) (h : vErr s.data.toList ≠ 0) :
    Calls Tryd.prog 12 #[.string s] w fun e w' => e = .returned (.tuple #[.string ⟨#[]⟩, .int .i64 0, .bool false, .int .i64 (vErr s.data.toList)]) ∧ Below w.heap.size w w' := by
  have hc := fun w => vcheck_any s w hs
  generalize vErr s.data.toList = E at *
  have HC := Lib.hid hc
  have hb : (E != 0) = true := by rw [bne_iff_ne]; exact h
  clear hc h
  go_enter Tryd.func12, Tryd.ntmps12
  go_wp2_with fail
  refine (HC.out _).mono ?_
  rintro e w1 ⟨rfl, hb1⟩
  go_wp2_with fail
  refine bodyPost_ret (v := .tuple #[.string ⟨#[]⟩, .int .i64 0, .bool false, .int .i64 E]) (by simp [results, Tryd.results12, go_sem]) rfl ⟨rfl, hb1⟩

theorem path_cons (p q : Bool) (x y : UInt8) (r : List UInt8) (n : Nat) : Vit.path p q (x :: y :: r) (n + 1) = Vit.worse (Vit.branch x y (Vit.dp r) p q false) (Vit.branch x y (Vit.dp r) p q true) :: Vit.path (Vit.worse (Vit.branch x y (Vit.dp r) p q false) (Vit.branch x y (Vit.dp r) p q true)) p r n := rfl
theorem path_round (c : List UInt8) (m k : Nat) (l : List Bool) (p q : Bool) (x y : UInt8) (hk : k < m) (hx : c[2 * k]? = some x) (hy : c[2 * k + 1]? = some y)
    (h : Vit.path false false c m = l ++ Vit.path p q (c.drop (2 * k)) (m - k)) (u : Bool)
    (hu : Vit.worse (Vit.branch x y (Vit.dp (c.drop (2 * (k + 1)))) p q false) (Vit.branch x y (Vit.dp (c.drop (2 * (k + 1)))) p q true) = u) : Vit.path false false c m = (l ++ [u]) ++ Vit.path u p (c.drop (2 * (k + 1))) (m - (k + 1)) := by
  obtain ⟨h1, rfl⟩ := List.getElem?_eq_some_iff.1 hx
  obtain ⟨h2, rfl⟩ := List.getElem?_eq_some_iff.1 hy
  have e : c.drop (2 * k) = c[2 * k] :: c[2 * k + 1] :: c.drop (2 * (k + 1)) := by
    rw [List.drop_eq_getElem_cons h1, List.drop_eq_getElem_cons h2]
    rfl
  rw [h, e, show m - k = (m - (k + 1)) + 1 by omega, path_cons, hu, List.append_assoc]
  rfl
theorem path_zero (p q : Bool) (c : List UInt8) : Vit.path p q c 0 = [] := by
  match c with
  | [] => rfl
  | [_] => rfl
  | _ :: _ :: _ => rfl
theorem keepO {w0 W : World} {g : Nat} {o0 o1 o2 o3 o4 o5 o6 o7 : Nat} {v0 v1 v2 v3 v4 v5 v6 v7 : Value} (hb : Below (g + 1) w0 W) (h : w0.cell? ⟨g, o0, none⟩ = some v0 ∧ w0.cell? ⟨g, o1, none⟩ = some v1 ∧ w0.cell? ⟨g, o2, none⟩ = some v2 ∧ w0.cell? ⟨g, o3, none⟩ = some v3 ∧ w0.cell? ⟨g, o4, none⟩ = some v4 ∧ w0.cell? ⟨g, o5, none⟩ = some v5 ∧ w0.cell? ⟨g, o6, none⟩ = some v6 ∧ w0.cell? ⟨g, o7, none⟩ = some v7) :
    W.cell? ⟨g, o0, none⟩ = some v0 ∧ W.cell? ⟨g, o1, none⟩ = some v1 ∧ W.cell? ⟨g, o2, none⟩ = some v2 ∧ W.cell? ⟨g, o3, none⟩ = some v3 ∧ W.cell? ⟨g, o4, none⟩ = some v4 ∧ W.cell? ⟨g, o5, none⟩ = some v5 ∧ W.cell? ⟨g, o6, none⟩ = some v6 ∧ W.cell? ⟨g, o7, none⟩ = some v7 := by
  have hc : ∀ o, W.cell? ⟨g, o, none⟩ = w0.cell? ⟨g, o, none⟩ := fun o => hb.cell (p := ⟨g, o, none⟩) (Nat.lt_succ_self g)
  simp only [hc]
  exact h

set_option maxHeartbeats 8000000 in
set_option maxRecDepth 100000 in
theorem decode_ok (s : ByteArray) (n : Nat) (hs : s.size = 2 * n) (hn : n ≤ 2000) (hn2 : 2 ≤ n) (hE : vErr s.data.toList = 0) (w : World) :
    Calls Tryd.prog 12 #[.string s] w fun e w' => e = .returned (.tuple #[.string ⟨(Vit.bits s.data.toList).toArray⟩, .int .i64 (Vit.cost s.data.toList), .bool (Vit.paths s.data.toList == 1), .int .i64 0]) ∧ Below w.heap.size w w' := by
  have c52 : Tryd.prog.cellsOf 52 = 2 := by kernel_rfl
  have c55 : Tryd.prog.cellsOf 55 = 8 := by kernel_rfl
  have hl : s.data.toList.length = 2 * n := by rw [toList_length, hs]
  have hc := fun w => vcheck_any s w (by omega)
  rw [hE] at hc
  have HC := Lib.hid hc
  have hst := fun w => stages_any s n hs hn w
  have HST := Lib.hid hst
  have infoB : (Tryd.prog.info? 5).map (fun i => (i.zero, i.size, i.bytes)) = some (some (.int .u8 0), 1, 1) := by kernel_rfl
  have hmk := run_make_cap (P := Tryd.prog) 40 5 (.int .u8 0) 1 Tryd.underlying40 infoB rfl .i64 .i64 (n + 1) ((n : Int) + 1) (by omega) (by omega) (by omega)
  have hdiv : (s.size : Int) / 2 = (n : Int) := by omega
  have HS := Lib.hid hs
  have HL := Lib.hid hl
  have HI := Lib.hid infoB
  clear hs hl hc hst hE infoB
  go_enter Tryd.func12, Tryd.ntmps12
  go_wp2_with fail
  refine (HC.out _).mono ?_
  rintro e w1 ⟨rfl, hb1⟩
  go_wp2_with fail
  refine (HST.out _).mono ?_
  rintro e w2 ⟨rfl, htab, hb2⟩
  generalize hg : w1.heap.size = g at *
  have HG0 := Lib.hid hg
  clear hg
  go_wp2_with fail
  have hgw2 : g < w2.heap.size := (Array.getElem?_eq_some_iff.1 htab).1
  go_loopg [8, 9, 29] (n - 2) (fun gh sv bv iv wr => ∃ (j : Nat) (l : List Bool) (p q : Bool), gh = n - 2 - j ∧ j ≤ n - 2 ∧ iv = .int .i64 j ∧ sv = .int .i64 (Conv.st p q : Nat) ∧ l.length = j ∧
    Hid (Vit.path false false s.data.toList (n - 2) = l ++ Vit.path p q (s.data.toList.drop (2 * j)) (n - 2 - j)) ∧ Own wr w2.heap.size 5 bv (bytesL (l.map Conv.ch)) ∧ Below w2.heap.size w2 wr)
  case atStart => exact ⟨0, [], false, false, rfl, Nat.zero_le _, rfl, rfl, rfl, rfl, Own.made_cap w2 _ _ _ _ (Nat.le_refl _) (by unfold maxLen; omega) (by rw [size_madeCells]), (Below.refl _ _).alloc (Nat.le_refl _) _⟩
  case round =>
    obtain ⟨j, l, p, q, hg, hj, rfl, rfl, hll, hpath, hown, hb⟩ := hrel
    have HG := Lib.hid hg
    clear hg
    by_cases hlt : j < n - 2
    · have hltI : (j : Int) < (n : Int) - 2 := by omega
      have hj1 : 2 * j + 1 < s.size := by have := HS.out; omega
      have hj0 : 2 * j < s.size := by omega
      have hX := two_cells s j hj1
      have htw : Tab wr g 55 s.data.toList := htab.below hb hgw2
      have hgw : g + 1 ≤ wr.heap.size := (Array.getElem?_eq_some_iff.1 htw).1
      have hsm := small_dp (n - (j + 1)) (s.data.toList.drop (2 * (j + 1))) (by rw [List.length_drop, HL.out]; omega) (by omega)
      obtain ⟨T, hT⟩ : ∃ T, Vit.dp (s.data.toList.drop (2 * (j + 1))) = T := ⟨_, rfl⟩
      rw [hT] at hsm
      have b0 := fun w => branch_any (s.extract (2 * j) (2 * j + 2)) s[2 * j] s[2 * j + 1] p q false hX T hsm w
      have b1 := fun w => branch_any (s.extract (2 * j) (2 * j + 2)) s[2 * j] s[2 * j + 1] p q true hX T hsm w
      have hpr := path_round s.data.toList (n - 2) j l p q s[2 * j] s[2 * j + 1] hlt (get_of_lt s _ hj0) (get_of_lt s _ hj1) hpath.out
      rw [hT] at hpr
      obtain ⟨a, hA2⟩ : ∃ a, Vit.branch s[2 * j] s[2 * j + 1] T p q false = a := ⟨_, rfl⟩
      obtain ⟨b, hB2⟩ : ∃ b, Vit.branch s[2 * j] s[2 * j + 1] T p q true = b := ⟨_, rfl⟩
      rw [hA2] at b0
      rw [hB2] at b1
      rw [hA2, hB2] at hpr
      have e0 : ((Conv.bn false : Nat) : Int) = 0 := rfl
      have e1 : ((Conv.bn true : Nat) : Int) = 1 := rfl
      simp only [sufV_eq] at b0 b1
      rw [e0] at b0
      rw [e1] at b1
      obtain ⟨⟨c0, p0⟩, ⟨c1, p1⟩, ⟨c2, p2⟩, ⟨c3, p3⟩⟩ := T
      simp only [stgV] at b0 b1
      have n0 := fun w => next_any (Conv.st p q : Nat) 0 p q false w (by cases p <;> cases q <;> rfl) rfl
      have n1 := fun w => next_any (Conv.st p q : Nat) 1 p q true w (by cases p <;> cases q <;> rfl) rfl
      have N0 := Lib.hid n0
      have N1 := Lib.hid n1
      have B0 := Lib.hid b0
      have B1 := Lib.hid b1
      have HPR := Lib.hid hpr
      have HLL := Lib.hid hll
      have x0 : wr.cell? ⟨g, (j + 1) * 8, none⟩ = some (.int .i64 c0) := htw.cell n (j + 1) 0 HL.out (by omega) (by omega) (.int .i64 c0) (by rw [hT]; rfl)
      have x1 := htw.cell n (j + 1) 1 HL.out (by omega) (by omega) (.int .i64 p0) (by rw [hT]; rfl)
      have x2 := htw.cell n (j + 1) 2 HL.out (by omega) (by omega) (.int .i64 c1) (by rw [hT]; rfl)
      have x3 := htw.cell n (j + 1) 3 HL.out (by omega) (by omega) (.int .i64 p1) (by rw [hT]; rfl)
      have x4 := htw.cell n (j + 1) 4 HL.out (by omega) (by omega) (.int .i64 c2) (by rw [hT]; rfl)
      have x5 := htw.cell n (j + 1) 5 HL.out (by omega) (by omega) (.int .i64 p2) (by rw [hT]; rfl)
      have x6 := htw.cell n (j + 1) 6 HL.out (by omega) (by omega) (.int .i64 c3) (by rw [hT]; rfl)
      have x7 := htw.cell n (j + 1) 7 HL.out (by omega) (by omega) (.int .i64 p3) (by rw [hT]; rfl)
      have q1 : IntKind.i64.wrap ((j : Int) + 1) = (j : Int) + 1 := IntWalk.i64_in _ (by omega)
      have q2 : (0 : Int) ≤ (j : Int) + 1 := by omega
      have q3 : (j : Int) + 1 < (n : Int) + 1 := by omega
      have q4 : ((j : Int) + 1).toNat = j + 1 := by omega
      have q5 : 2 * (j : Int) + 2 ≤ (s.size : Int) := by have := HS.out; omega
      have hlen : (bytesL (l.map Conv.ch)).length ≤ 2000 := by rw [bytesL_length, List.length_map]; omega
      clear b0 b1 n0 n1 hpr hpath hll hA2 hB2 hX e0 e1 hT hsm
      go_upto_region 11 with fail
      go_cut [12, 13, 29] from 29 to 82 (fun sa sb sk wx => ∃ ga gb : Nat, sa = .pointer (some ⟨ga, 0, none⟩) ∧ sb = .pointer (some ⟨gb, 0, none⟩) ∧ sk = .int .i64 j ∧
        wx.heap[ga]? = some (.cells #[.int .i64 a.1, .int .i64 a.2] 52 (0, 0)) ∧ wx.heap[gb]? = some (.cells #[.int .i64 b.1, .int .i64 b.2] 52 (0, 0)) ∧ Below wr.heap.size wr wx)
      case first =>
        go_region_held3 (fun w' => w'.cell? ⟨g, (j + 1) * 8, none⟩ = some (.int .i64 c0) ∧ w'.cell? ⟨g, (j + 1) * 8 + 1, none⟩ = some (.int .i64 p0) ∧ w'.cell? ⟨g, (j + 1) * 8 + 2, none⟩ = some (.int .i64 c1) ∧ w'.cell? ⟨g, (j + 1) * 8 + 3, none⟩ = some (.int .i64 p1) ∧ w'.cell? ⟨g, (j + 1) * 8 + 4, none⟩ = some (.int .i64 c2) ∧ w'.cell? ⟨g, (j + 1) * 8 + 5, none⟩ = some (.int .i64 p2) ∧ w'.cell? ⟨g, (j + 1) * 8 + 6, none⟩ = some (.int .i64 c3) ∧ w'.cell? ⟨g, (j + 1) * 8 + 7, none⟩ = some (.int .i64 p3)) ((refine keepO (w0 := wr) ?_ ⟨x0, x1, x2, x3, x4, x5, x6, x7⟩; repeat (first | with_reducible assumption | with_reducible exact Below.refl _ _ | with_reducible refine Below.drew ?_ | with_reducible refine Below.alloc ?_ (by first | omega | (simp; done) | (simp; omega)) _ | with_reducible refine Below.setCell ?_ (by first | omega | (simp; done) | (simp; omega)) _)))
          (first | (go_at_call 26; (with_reducible refine (B0.out _).mono ?_); rintro e w1 ⟨rfl, hb1⟩; have hz1 := hb1.size; have hy1 : Below wr.heap.size wr w1 := by { refine Below.trans ?_ (hb1.mono (by first | omega | (simp; done) | (simp; omega))); (repeat (first | with_reducible assumption | with_reducible exact Below.refl _ _ | with_reducible refine Below.drew ?_ | with_reducible refine Below.alloc ?_ (by first | omega | (simp; done) | (simp; omega)) _ | with_reducible refine Below.setCell ?_ (by first | omega | (simp; done) | (simp; omega)) _)) }; have hx1 : Below (g + 1) wr w1 := by { refine Below.trans ?_ (hb1.mono (by first | omega | (simp; done) | (simp; omega))); (repeat (first | with_reducible assumption | with_reducible exact Below.refl _ _ | with_reducible refine Below.drew ?_ | with_reducible refine Below.alloc ?_ (by first | omega | (simp; done) | (simp; omega)) _ | with_reducible refine Below.setCell ?_ (by first | omega | (simp; done) | (simp; omega)) _)) }; (try simp at hz1); (try (have hl1 : wr.heap.size < w1.heap.size := by omega)); (try (have hm1 : wr.heap.size + 1 < w1.heap.size := by omega)); obtain ⟨hc1, hf1⟩ := bcell hb1) | (go_at_call 26; (with_reducible refine (B1.out _).mono ?_); rintro e w2 ⟨rfl, hb2⟩; have hz2 := hb2.size; have hy2 : Below wr.heap.size wr w2 := by { refine Below.trans ?_ (hb2.mono (by first | omega | (simp; done) | (simp; omega))); (repeat (first | with_reducible assumption | with_reducible exact Below.refl _ _ | with_reducible refine Below.drew ?_ | with_reducible refine Below.alloc ?_ (by first | omega | (simp; done) | (simp; omega)) _ | with_reducible refine Below.setCell ?_ (by first | omega | (simp; done) | (simp; omega)) _)) }; have hx2 : Below (g + 1) wr w2 := by { refine Below.trans ?_ (hb2.mono (by first | omega | (simp; done) | (simp; omega))); (repeat (first | with_reducible assumption | with_reducible exact Below.refl _ _ | with_reducible refine Below.drew ?_ | with_reducible refine Below.alloc ?_ (by first | omega | (simp; done) | (simp; omega)) _ | with_reducible refine Below.setCell ?_ (by first | omega | (simp; done) | (simp; omega)) _)) }; (try simp at hz2); (try (have hl2 : wr.heap.size < w2.heap.size := by omega)); (try (have hm2 : wr.heap.size + 1 < w2.heap.size := by omega)); (try (have hn2 : w1.heap.size < w2.heap.size := by omega)); (try (have ho2 : w1.heap.size + 1 < w2.heap.size := by omega)); obtain ⟨hc2, hf2⟩ := bcell hb2))
        all_goals
          go_wp2_with fail
          go_meet
          case rel =>
            clear B0 B1 N0 N1 HPR HLL x0 x1 x2 x3 x4 x5 x6 x7 HST HC hx1 hx2 c52 c55 hc1 hc2 hf1 hf2 hown htw htab hb q1 q2 q3 q4 q5 hmk HI
            refine ⟨_, _, rfl, rfl, rfl, ?_, ?_, ?_⟩
            · repeat (first | with_reducible refine hb_new (by first | omega | (simp; done) | (simp; omega)) | with_reducible refine hb_drew ?_ | with_reducible apply hb_set2 | with_reducible refine hb_far (by first | omega | (simp; done) | (simp; omega)) ?_ | with_reducible refine hb_alloc ?_ | with_reducible refine hb_below hb2 (by first | omega | (simp; done) | (simp; omega)) ?_ | with_reducible refine hb_below hb1 (by first | omega | (simp; done) | (simp; omega)) ?_)
            · repeat (first | with_reducible refine hb_new (by first | omega | (simp; done) | (simp; omega)) | with_reducible refine hb_drew ?_ | with_reducible apply hb_set2 | with_reducible refine hb_far (by first | omega | (simp; done) | (simp; omega)) ?_ | with_reducible refine hb_alloc ?_ | with_reducible refine hb_below hb2 (by first | omega | (simp; done) | (simp; omega)) ?_ | with_reducible refine hb_below hb1 (by first | omega | (simp; done) | (simp; omega)) ?_)
            · repeat (first | with_reducible assumption | with_reducible exact Below.refl _ _ | with_reducible refine Below.drew ?_ | with_reducible refine Below.alloc ?_ (by first | omega | (simp; done) | (simp; omega)) _ | with_reducible refine Below.setCell ?_ (by first | omega | (simp; done) | (simp; omega)) _)
      case rest =>
        obtain ⟨ga, gb, rfl, rfl, rfl, hA, hBb, hbx⟩ := hcut
        have a0 := block_cell hA 0 (.int .i64 a.1) rfl
        have d0 := block_cell hBb 0 (.int .i64 b.1) rfl
        have hown2 := hown.below hbx (Nat.le_refl _)
        have hbw := hb.trans (hbx.mono hb.size)
        clear hA hBb B0 B1 x0 x1 x2 x3 x4 x5 x6 x7 q1 q2 q3 q4 q5 hown hbx
        by_cases t1 : a.1 < 0
        · by_cases t0 : b.1 < 0
          all_goals
            have hp2 := HPR.out true (by unfold Vit.worse; rw [decide_eq_true_iff]; omega)
            have HP2 := Lib.hid hp2
            clear hp2
            go_wp2_with (at_builtin; refine wpList_app1 5 40 _ 1 HI.out Tryd.underlying40 rfl rfl _ _ rfl _ _ _ rfl hown2 _ rfl rfl (by omega) (by omega) hbw.size ?_; intro v1 w3 hown3 hb3 _)
            have hb4 := hbw.trans hb3
            have e9 : bytesL (l.map Conv.ch) ++ [Value.int .u8 49] = bytesL ((l ++ [true]).map Conv.ch) := by simp [bytesL, Conv.ch]
            rw [e9] at hown3
            have hll2 : (l ++ [true]).length = j + 1 := by rw [List.length_append, HLL.out]; rfl
            clear e9
            go_wp2_with fail
            refine (N1.out _).mono ?_
            rintro e w4 ⟨rfl, rfl⟩
            go_wp2_with fail
            go_roundg (n - 2 - (j + 1))
            case measure => have := HG.out; omega
            case rel => exact ⟨j + 1, l ++ [true], true, p, rfl, by omega, by go_num, rfl, hll2, HP2, hown3, hb4⟩
        · by_cases t0 : b.1 < 0
          · skip
            have hp2 := HPR.out false (by unfold Vit.worse; rw [decide_eq_false_iff_not]; omega)
            have HP2 := Lib.hid hp2
            clear hp2
            go_wp2_with (at_builtin; refine wpList_app1 5 40 _ 1 HI.out Tryd.underlying40 rfl rfl _ _ rfl _ _ _ rfl hown2 _ rfl rfl (by omega) (by omega) hbw.size ?_; intro v1 w3 hown3 hb3 _)
            have hb4 := hbw.trans hb3
            have e9 : bytesL (l.map Conv.ch) ++ [Value.int .u8 48] = bytesL ((l ++ [false]).map Conv.ch) := by simp [bytesL, Conv.ch]
            rw [e9] at hown3
            have hll2 : (l ++ [false]).length = j + 1 := by rw [List.length_append, HLL.out]; rfl
            clear e9
            go_wp2_with fail
            refine (N0.out _).mono ?_
            rintro e w4 ⟨rfl, rfl⟩
            go_wp2_with fail
            go_roundg (n - 2 - (j + 1))
            case measure => have := HG.out; omega
            case rel => exact ⟨j + 1, l ++ [false], false, p, rfl, by omega, by go_num, rfl, hll2, HP2, hown3, hb4⟩
          · by_cases t2 : b.1 < a.1
            · skip
              have hp2 := HPR.out true (by unfold Vit.worse; rw [decide_eq_true_iff]; omega)
              have HP2 := Lib.hid hp2
              clear hp2
              go_wp2_with (at_builtin; refine wpList_app1 5 40 _ 1 HI.out Tryd.underlying40 rfl rfl _ _ rfl _ _ _ rfl hown2 _ rfl rfl (by omega) (by omega) hbw.size ?_; intro v1 w3 hown3 hb3 _)
              have hb4 := hbw.trans hb3
              have e9 : bytesL (l.map Conv.ch) ++ [Value.int .u8 49] = bytesL ((l ++ [true]).map Conv.ch) := by simp [bytesL, Conv.ch]
              rw [e9] at hown3
              have hll2 : (l ++ [true]).length = j + 1 := by rw [List.length_append, HLL.out]; rfl
              clear e9
              go_wp2_with fail
              refine (N1.out _).mono ?_
              rintro e w4 ⟨rfl, rfl⟩
              go_wp2_with fail
              go_roundg (n - 2 - (j + 1))
              case measure => have := HG.out; omega
              case rel => exact ⟨j + 1, l ++ [true], true, p, rfl, by omega, by go_num, rfl, hll2, HP2, hown3, hb4⟩
            · skip
              have hp2 := HPR.out false (by unfold Vit.worse; rw [decide_eq_false_iff_not]; omega)
              have HP2 := Lib.hid hp2
              clear hp2
              go_wp2_with (at_builtin; refine wpList_app1 5 40 _ 1 HI.out Tryd.underlying40 rfl rfl _ _ rfl _ _ _ rfl hown2 _ rfl rfl (by omega) (by omega) hbw.size ?_; intro v1 w3 hown3 hb3 _)
              have hb4 := hbw.trans hb3
              have e9 : bytesL (l.map Conv.ch) ++ [Value.int .u8 48] = bytesL ((l ++ [false]).map Conv.ch) := by simp [bytesL, Conv.ch]
              rw [e9] at hown3
              have hll2 : (l ++ [false]).length = j + 1 := by rw [List.length_append, HLL.out]; rfl
              clear e9
              go_wp2_with fail
              refine (N0.out _).mono ?_
              rintro e w4 ⟨rfl, rfl⟩
              go_wp2_with fail
              go_roundg (n - 2 - (j + 1))
              case measure => have := HG.out; omega
              case rel => exact ⟨j + 1, l ++ [false], false, p, rfl, by omega, by go_num, rfl, hll2, HP2, hown3, hb4⟩
    · obtain rfl : j = n - 2 := by omega
      have hp := hpath.out
      rw [Nat.sub_self, path_zero, List.append_nil] at hp
      have hbits : Vit.bits s.data.toList = l.map Conv.ch := by
        have hd : s.data.toList.length / 2 = n := by have := HL.out; omega
        unfold Vit.bits
        rw [hd, hp]
      have HBITS := Lib.hid hbits
      obtain ⟨ao, cap, hv, _⟩ := hown.form
      subst hv
      generalize (bytesL (l.map Conv.ch)).length = NN at hown
      have hcv := conv_own (P := Tryd.prog) 40 5 9 Tryd.underlying40 Tryd.underlying5 Tryd.underlying9 hown
      have hcv2 := conv_own (P := Tryd.prog) 40 5 9 Tryd.underlying40 Tryd.underlying5 Tryd.underlying9 (show Own wr.drew _ _ _ _ from hown)
      have htw : Tab wr g 55 s.data.toList := htab.below hb hgw2
      obtain ⟨T, hT⟩ : ∃ T, Vit.dp s.data.toList = T := ⟨_, rfl⟩
      have x0 := htw.cell n 0 0 HL.out (by omega) (by omega) (.int .i64 T.a.1) (by rw [Nat.mul_zero, List.drop_zero, hT]; rfl)
      have x1 := htw.cell n 0 1 HL.out (by omega) (by omega) (.int .i64 T.a.2) (by rw [Nat.mul_zero, List.drop_zero, hT]; rfl)
      rw [show 0 * 8 + 0 = 0 by omega] at x0
      rw [show 0 * 8 + 1 = 1 by omega] at x1
      have hcost : Vit.cost s.data.toList = T.a.1 := by unfold Vit.cost; rw [hT]
      have hpaths : Vit.paths s.data.toList = T.a.2 := by unfold Vit.paths; rw [hT]
      have HC1 := Lib.hid hcost
      have HP1 := Lib.hid hpaths
      have hg1 : w.heap.size ≤ g := by have h1 := hb1.size; have h2 := HG0.out; omega
      have hbb := (hb1.trans (hb2.mono hg1)).trans (hb.mono (by omega))
      clear hp hbits hT hcost hpaths hpath hmk hll
      generalize T.a.1 = C at *
      generalize T.a.2 = PP at *
      go_wp2_with fail
      go_region_held3 (fun w' => w'.cell? ⟨g, 0, none⟩ = some (.int .i64 C) ∧ w'.cell? ⟨g, 1, none⟩ = some (.int .i64 PP) ∧ (convert 40 9 (.slice ao NN cap)).run Tryd.prog w' = .ok (.string ⟨(l.map Conv.ch).toArray⟩) w') (go_keep) (fail)
      all_goals
        go_wp2_with fail
        refine bodyPost_ret (v := .tuple #[.string ⟨(l.map Conv.ch).toArray⟩, .int .i64 C, .bool (PP == 1), .int .i64 0]) (by simp [results, Tryd.results12, go_sem]) rfl ⟨by rw [HBITS.out, HC1.out, HP1.out], bdrew hbb 1⟩
end Go.Proofs.YtnklgppfggkeoaaDoor
