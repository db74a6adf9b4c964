/-
  The walk of AgerLocal, where a reel is lost.
-/
import Derived.Test.YtghpolfmhnnbaaaAgLaw6
import Derived.IntWalk
namespace Go.Proofs.Ytghpolfmhnnbaaa
open Go.RowKit

theorem Reels.take {w : World} {ao : Option Addr} {n : Nat} {rs : List Reel} (h : Reels w ao n rs) (m : Nat) (hm : m ≤ n) : Reels w ao m (rs.take m) := by
  refine ⟨by rw [List.length_take]; have := h.1; omega, fun j x hx => h.2 j x ?_⟩
  rw [List.getElem?_take] at hx
  split at hx
  · exact hx
  · cases hx
/-- l[i:] of reels. -/
def tailR (ao : Option Addr) (cap i : Nat) : Option Addr := if cap = i then ao else ao.map (·.add (i * 2))
theorem Reels.tail {w : World} {ao : Option Addr} {n cap : Nat} {rs : List Reel} (h : Reels w ao n rs) (i : Nat) (hc : n ≤ cap) (hi : i ≤ n) : Reels w (tailR ao cap i) (n - i) (rs.drop i) := by
  unfold tailR
  refine ⟨by rw [List.length_drop, ← h.1], fun j x hj => ?_⟩
  rw [List.getElem?_drop] at hj
  obtain ⟨bk, o, e, h1, ap, cp, h2, h3, h4⟩ := h.2 (i + j) x hj
  have hlt := (List.getElem?_eq_some_iff.1 hj).1
  have := h.1
  rw [if_neg (by omega), e]
  exact ⟨bk, o + i * 2, by simp [Addr.add_lit], by rw [show o + i * 2 + j * 2 = o + (i + j) * 2 by omega]; exact h1, ap, cp, by rw [show o + i * 2 + j * 2 + 1 = o + (i + j) * 2 + 1 by omega]; exact h2, h3, h4⟩

set_option maxHeartbeats 4000000 in
set_option maxRecDepth 100000 in
theorem local_4 (j m : Nat) (p a l : Int) (ao : Option Addr) (cap : Nat) (rs : List Reel) (w : World) (hr : Reels w ao (m + 1) rs) (hcap : m + 1 ≤ cap) (hcm : cap ≤ 9223372036854775807) (hs : smallR rs = true) (hl : l ≤ 9223372036854775807) (hj : j ≤ m) :
    Calls Try.prog 6 #[.slice ao (m + 1) cap, .agg #[.int .i64 4, .int .i64 j, .int .i64 p, .int .i64 a, .int .i64 l]] w fun e w' => e = .returned (.bool true) ∧ Below w.heap.size w w' := by
  obtain ⟨hl6, hps, hf⟩ := small_fine hs
  have hml := hr.1
  obtain ⟨W, hW, hbW, hzW, d0, d1, d2, d3, d4⟩ := dbox w 4 j p a l
  have HR := Lib.hid (hr.below hbW)
  have hg := great59_any ao (m + 1) cap rs W HR.out (by omega) (fun r hr => ⟨by have := (hps r hr).1; omega, fun x hx => by have := (hps r hr).2 x hx; omega⟩)
  rw [if_pos hs] at hg
  have HG := Lib.hid hg
  have ha := apply_r ao (m + 1) cap rs 4 j p a l W HR.out hf hl (fun e => absurd e (by decide))
  rw [applyR_4 (by omega)] at ha
  have hel : (rs.eraseIdx j).length = m := by rw [List.length_eraseIdx, if_pos (by omega)]; omega
  rw [hel] at ha
  have HA := Lib.hid ha
  have et : (rs.eraseIdx j).take j = rs.take j := by rw [List.eraseIdx_eq_take_drop_succ, List.take_left' (by rw [List.length_take]; omega)]
  have ed : (rs.eraseIdx j).drop j = rs.drop (j + 1) := by rw [List.eraseIdx_eq_take_drop_succ, List.drop_left' (by rw [List.length_take]; omega)]
  have ET := Lib.hid et
  have ED := Lib.hid ed
  have HPT := Lib.hid (fun (r : Reel) (hr : r ∈ rs.take j) => (show r.ps.length ≤ 9223372036854775807 by have := (hps r (List.mem_of_mem_take hr)).1; omega))
  have HPD := Lib.hid (fun (r : Reel) (hr : r ∈ rs.drop (j + 1)) => (show r.ps.length ≤ 9223372036854775807 by have := (hps r (List.mem_of_mem_drop hr)).1; omega))
  have hlw : w.heap.size < W.heap.size := by omega
  have hm6 : m ≤ 6 := by omega
  clear hr hs hf hps hzW hg ha hel et ed hml
  go_enter Try.func6, Try.ntmps6
  go_wp2_with fail
  refine HG.out.mono ?_
  rintro e w1 ⟨rfl, rfl⟩
  go_wp2_with fail
  refine HA.out.mono ?_
  rintro e w2 ⟨a2, c2, rfl, hr2, hc2, hc3, hb2⟩
  have e0 := (hb2.cell (p := ⟨w.heap.size, 0, none⟩) hlw).trans d0
  have e1 := (hb2.cell (p := ⟨w.heap.size, 1, none⟩) hlw).trans d1
  have HR2 := Lib.hid hr2
  have HR1 := Lib.hid (HR.out.below hb2)
  have hlw2 : w.heap.size < w2.heap.size := Nat.lt_of_lt_of_le hlw hb2.size
  have q1 : (0 : Int) ≤ (j : Int) := by omega
  have q2 : (j : Int) < (m : Int) + 1 := by omega
  have q3 : j ≤ c2 := by omega
  have q4 : (j : Int) ≤ (c2 : Int) := by omega
  have q5 : (j : Int) ≤ (m : Int) := by omega
  have q6 : j ≤ cap := by omega
  have q7 : (j : Int) ≤ (cap : Int) := by omega
  have q8 : (0 : Int) ≤ (j : Int) + 1 := by omega
  have q9 : (j : Int) + 1 ≤ (m : Int) + 1 := by omega
  have q10 : (j : Int) + 1 ≤ (cap : Int) := by omega
  have q11 : j + 1 ≤ cap := by omega
  have q12 : IntKind.i64.wrap ((j : Int) + 1) = (j : Int) + 1 := IntWalk.i64_in _ (by omega)
  have q13 : ((j : Int) + 1).toNat = j + 1 := by omega
  have hm1 : ((m : Int) == (m : Int)) = true := beq_self_eq_true _
  have q14 : IntKind.i64.wrap ((m : Int) + 1 - 1) = (m : Int) := by rw [IntWalk.i64_in _ (by omega)]; omega
  have q15 : IntKind.i64.wrap (m : Int) = (m : Int) := IntWalk.i64_in _ (by omega)
  clear hr2 d0 d1 d2 d3 d4
  go_upto_region 6 with (fail)
  have hs1 := fun (X : World) (h : Below w2.heap.size w2 X) => same_true a2 ao j c2 cap (rs.take j) X (by have := (HR2.out.below h).take j (by omega); rwa [ET.out] at this) ((HR1.out.below h).take j (by omega)) (by omega) HPT.out
  have hs2 := fun (X : World) (h : Below w2.heap.size w2 X) => same_true (tailR a2 c2 j) (tailR ao cap (j + 1)) (m - j) (c2 - j) (cap - (j + 1)) (rs.drop (j + 1)) X (by have := (HR2.out.below h).tail j hc2 hj; rwa [ED.out] at this) (by have := (HR1.out.below h).tail (j + 1) hcap (by omega); rwa [show m + 1 - (j + 1) = m - j by omega] at this) (by omega) HPD.out
  have HS1 := Lib.hid hs1
  have hbw2 := hbW.trans (hb2.mono hbW.size)
  have hsz2 := Nat.le_trans hbW.size hb2.size
  clear hs1
  by_cases hca : c2 = j
  · obtain rfl : m = j := by omega
    subst hca
    by_cases hcb : cap = c2 + 1
    · subst hcb
      have q16 : (c2 : Int) ≤ (c2 : Int) + 1 := by omega
      simp only [tailR, if_pos, Nat.sub_self] at hs2
      have HS2 := Lib.hid hs2
      clear hs2
      go_region_held3 (fun w' => w'.cell? ⟨w.heap.size, 1, none⟩ = some (.int .i64 c2))
        (first | exact e1 | exact z1 | exact z2 | exact z3)
        (first | (go_at_call 13; (with_reducible refine (HS1.out _ ((Below.refl w2.heap.size w2).drew)).mono ?_); rintro e w5 ⟨rfl, hb5⟩; have hbx : Below w2.heap.size w2 w5 := (Below.refl w2.heap.size w2).drew.trans hb5; have z1 := (hbx.cell (p := ⟨w.heap.size, 1, none⟩) hlw2).trans e1) | (go_at_call 13; (with_reducible refine (HS2.out w5 hbx).mono ?_); rintro e w6 ⟨rfl, hb6⟩; have hby : Below w2.heap.size w2 w6 := hbx.trans (hb6.mono hbx.size); have z2 := (hby.cell (p := ⟨w.heap.size, 1, none⟩) hlw2).trans e1) | (go_at_call 11; refine (awake59_any _).mono ?_; rintro e w7 ⟨rfl, hb7⟩; have hbz : Below w2.heap.size w2 w7 := hby.trans (hb7.mono hby.size); have z3 := (hbz.cell (p := ⟨w.heap.size, 1, none⟩) hlw2).trans e1))
      go_wp2_with fail
      go_ret
      exact ⟨rfl, hbw2.trans (hbz.mono hsz2)⟩
    · simp only [tailR, if_pos, if_neg hcb, Nat.sub_self] at hs2
      have HS2 := Lib.hid hs2
      clear hs2
      go_region_held3 (fun w' => w'.cell? ⟨w.heap.size, 1, none⟩ = some (.int .i64 c2))
        (first | exact e1 | exact z1 | exact z2 | exact z3)
        (first | (go_at_call 13; (with_reducible refine (HS1.out _ ((Below.refl w2.heap.size w2).drew)).mono ?_); rintro e w5 ⟨rfl, hb5⟩; have hbx : Below w2.heap.size w2 w5 := (Below.refl w2.heap.size w2).drew.trans hb5; have z1 := (hbx.cell (p := ⟨w.heap.size, 1, none⟩) hlw2).trans e1) | (go_at_call 13; (with_reducible refine (HS2.out w5 hbx).mono ?_); rintro e w6 ⟨rfl, hb6⟩; have hby : Below w2.heap.size w2 w6 := hbx.trans (hb6.mono hbx.size); have z2 := (hby.cell (p := ⟨w.heap.size, 1, none⟩) hlw2).trans e1) | (go_at_call 11; refine (awake59_any _).mono ?_; rintro e w7 ⟨rfl, hb7⟩; have hbz : Below w2.heap.size w2 w7 := hby.trans (hb7.mono hby.size); have z3 := (hbz.cell (p := ⟨w.heap.size, 1, none⟩) hlw2).trans e1))
      go_wp2_with fail
      go_ret
      exact ⟨rfl, hbw2.trans (hbz.mono hsz2)⟩
  · by_cases hcb : cap = j + 1
    · obtain rfl : m = j := by omega
      subst hcb
      have q16 : (m : Int) ≤ (m : Int) + 1 := by omega
      simp only [tailR, if_pos, if_neg hca, Nat.sub_self] at hs2
      have HS2 := Lib.hid hs2
      clear hs2
      go_region_held3 (fun w' => w'.cell? ⟨w.heap.size, 1, none⟩ = some (.int .i64 m))
        (first | exact e1 | exact z1 | exact z2 | exact z3)
        (first | (go_at_call 13; (with_reducible refine (HS1.out _ ((Below.refl w2.heap.size w2).drew)).mono ?_); rintro e w5 ⟨rfl, hb5⟩; have hbx : Below w2.heap.size w2 w5 := (Below.refl w2.heap.size w2).drew.trans hb5; have z1 := (hbx.cell (p := ⟨w.heap.size, 1, none⟩) hlw2).trans e1) | (go_at_call 13; (with_reducible refine (HS2.out w5 hbx).mono ?_); rintro e w6 ⟨rfl, hb6⟩; have hby : Below w2.heap.size w2 w6 := hbx.trans (hb6.mono hbx.size); have z2 := (hby.cell (p := ⟨w.heap.size, 1, none⟩) hlw2).trans e1) | (go_at_call 11; refine (awake59_any _).mono ?_; rintro e w7 ⟨rfl, hb7⟩; have hbz : Below w2.heap.size w2 w7 := hby.trans (hb7.mono hby.size); have z3 := (hbz.cell (p := ⟨w.heap.size, 1, none⟩) hlw2).trans e1))
      go_wp2_with fail
      go_ret
      exact ⟨rfl, hbw2.trans (hbz.mono hsz2)⟩
    · simp only [tailR, if_neg hca, if_neg hcb] at hs2
      have HS2 := Lib.hid hs2
      clear hs2
      go_region_held3 (fun w' => w'.cell? ⟨w.heap.size, 1, none⟩ = some (.int .i64 j))
        (first | exact e1 | exact z1 | exact z2 | exact z3)
        (first | (go_at_call 13; (with_reducible refine (HS1.out _ ((Below.refl w2.heap.size w2).drew)).mono ?_); rintro e w5 ⟨rfl, hb5⟩; have hbx : Below w2.heap.size w2 w5 := (Below.refl w2.heap.size w2).drew.trans hb5; have z1 := (hbx.cell (p := ⟨w.heap.size, 1, none⟩) hlw2).trans e1) | (go_at_call 13; (with_reducible refine (HS2.out w5 hbx).mono ?_); rintro e w6 ⟨rfl, hb6⟩; have hby : Below w2.heap.size w2 w6 := hbx.trans (hb6.mono hbx.size); have z2 := (hby.cell (p := ⟨w.heap.size, 1, none⟩) hlw2).trans e1) | (go_at_call 11; refine (awake59_any _).mono ?_; rintro e w7 ⟨rfl, hb7⟩; have hbz : Below w2.heap.size w2 w7 := hby.trans (hb7.mono hby.size); have z3 := (hbz.cell (p := ⟨w.heap.size, 1, none⟩) hlw2).trans e1))
      go_wp2_with fail
      go_ret
      exact ⟨rfl, hbw2.trans (hbz.mono hsz2)⟩
theorem law_local (v0 : Value) (rs : List Reel) (v1 : Value) (d : Dmg) (w : World) (hv : ReelsArg w v0 rs) (hd : DmgArg v1 d) :
    Calls Try.prog 6 #[v0, v1] w fun e w' => e = .returned (.bool true) ∧ Below w.heap.size w w' := by
  obtain ⟨ao, cap, rfl, hl, hc, hr, hb⟩ := hv
  obtain ⟨rfl, _, _, _, _, hlen⟩ := hd
  obtain ⟨k, r, p, a, l⟩ := d
  by_cases hs : smallR rs = true
  · by_cases hin : 0 ≤ r ∧ r < rs.length
    · by_cases h4 : k = 4
      · subst h4
        obtain ⟨j, rfl⟩ : ∃ j : Nat, r = j := ⟨r.toNat, by omega⟩
        obtain ⟨m, hm⟩ : ∃ m, rs.length = m + 1 := ⟨rs.length - 1, by omega⟩
        rw [hm] at hr hl ⊢
        exact local_4 j m p a l ao cap rs w hr hl hc hs hlen.2 (by omega)
      · exact local_main k r p a l ao cap rs w hr hs hlen.2 (.inl ⟨hin.1, hin.2, h4⟩)
    · exact local_main k r p a l ao cap rs w hr hs hlen.2 (.inr (by omega))
  · exact local_skip k r p a l ao cap rs w hr (by omega) hb hs
end Go.Proofs.Ytghpolfmhnnbaaa
