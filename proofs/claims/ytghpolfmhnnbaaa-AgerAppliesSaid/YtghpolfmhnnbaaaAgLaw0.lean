/-
  The walk of AgerApplies.
-/
import Derived.Test.YtghpolfmhnnbaaaAgRApp5
import Derived.Test.YtghpolfmhnnbaaaAgLaw6
import Derived.Test.YtghpolfmhnnbaaaAgRArgs
namespace Go.Proofs.Ytghpolfmhnnbaaa
open Go.RowKit

theorem rapply_any (ao : Option Addr) (n cap : Nat) (rs : List Reel) (k r p a l : Int) (w : World) (hr : Reels w ao n rs) (hf : Fine rs) (hl64 : l ≤ 9223372036854775807) :
    Calls Try.prog 15 #[.slice ao n cap, .agg #[.int .i64 k, .int .i64 r, .int .i64 p, .int .i64 a, .int .i64 l]] w fun e w' => ∃ v, e = .returned v ∧ OwnRs w' w.heap.size v (applyR rs ⟨k, r, p, a, l⟩) ∧ Below w.heap.size w w' := by
  by_cases hin : 0 ≤ r ∧ r < rs.length
  · obtain ⟨j, rfl⟩ : ∃ j : Nat, r = j := ⟨r.toNat, by omega⟩
    by_cases hk : k = 4
    · subst hk
      exact rapply_4 ao n cap j rs p a l w hr hf (by omega)
    · obtain ⟨x, hx⟩ : ∃ x, rs[j]? = some x := ⟨_, List.getElem?_eq_getElem (by omega)⟩
      by_cases hu : 0 ≤ p ∧ p < x.ps.length
      · obtain ⟨q, rfl⟩ : ∃ q : Nat, p = q := ⟨p.toNat, by omega⟩
        obtain ⟨y, hy⟩ : ∃ y, x.ps[q]? = some y := ⟨_, List.getElem?_eq_getElem (by omega)⟩
        by_cases h6 : k = 6
        · subst h6
          by_cases ha : 0 ≤ a ∧ a < x.ps.length
          · obtain ⟨b, rfl⟩ : ∃ b : Nat, a = b := ⟨a.toNat, by omega⟩
            exact rapply_6 ao n cap j q b rs x l w hr hf hx (by omega) (by omega)
          · exact rapply_6no ao n cap j q rs x a l w hr hf hx (by omega) (by omega)
        · exact rapply_p ao n cap j q rs x y k a l w hr hf hx hk h6 hy hl64
      · exact rapply_nop ao n cap j rs x k p a l w hr hf hx hk (by omega)
  · exact rapply_out ao n cap rs k r p a l w hr hf (by omega)
theorem rapply_r (ao : Option Addr) (n cap : Nat) (rs : List Reel) (k r p a l : Int) (w : World) (hr : Reels w ao n rs) (hf : Fine rs) (hl64 : l ≤ 9223372036854775807) :
    Calls Try.prog 15 #[.slice ao n cap, .agg #[.int .i64 k, .int .i64 r, .int .i64 p, .int .i64 a, .int .i64 l]] w fun e w' => ∃ a' c', e = .returned (.slice a' (applyR rs ⟨k, r, p, a, l⟩).length c') ∧ Reels w' a' (applyR rs ⟨k, r, p, a, l⟩).length (applyR rs ⟨k, r, p, a, l⟩) ∧ Below w.heap.size w w' := by
  refine (rapply_any ao n cap rs k r p a l w hr hf hl64).mono ?_
  rintro e w' ⟨v, rfl, ho, hb⟩
  obtain ⟨a', c', rfl, _⟩ := ho.form
  exact ⟨a', c', rfl, ho.read, hb⟩
theorem rcopy_r (ao : Option Addr) (n cap : Nat) (rs : List Reel) (w : World) (hr : Reels w ao n rs) (hn : n ≤ 65536) (hp : ∀ r ∈ rs, r.ps.length ≤ 65536) :
    Calls Try.prog 12 #[.slice ao n cap] w fun e w' => ∃ a' c', e = .returned (.slice a' n c') ∧ Reels w' a' n rs ∧ Below w.heap.size w w' := by
  refine (rcopy_any ao n cap rs w hr hn hp).mono ?_
  rintro e w' ⟨v, rfl, ho, hb⟩
  obtain ⟨a', c', rfl, _⟩ := ho.form
  rw [← hr.1] at ho ⊢
  exact ⟨a', c', rfl, ho.read, hb⟩

set_option maxHeartbeats 4000000 in
set_option maxRecDepth 100000 in
theorem applies_skip (k r p a l : Int) (ao : Option Addr) (cap : Nat) (rs : List Reel) (w : World) (hr : Reels w ao rs.length rs) (hn : rs.length ≤ 9223372036854775807) (hb : ∀ r ∈ rs, r.ps.length ≤ 9223372036854775807 ∧ ∀ x ∈ r.ps, x.length ≤ 9223372036854775807) (hs : ¬ smallR rs = true) :
    Calls Try.prog 3 #[.slice ao rs.length cap, .agg #[.int .i64 k, .int .i64 r, .int .i64 p, .int .i64 a, .int .i64 l]] w fun e w' => e = .returned (.bool true) ∧ Below w.heap.size w w' := by
  obtain ⟨W, hW, hbW, hzW, d0, d1, d2, d3, d4⟩ := dbox w k r p a l
  have HG := great_at (cap := cap) (hr.below hbW) hb hn 1 (if_neg hs)
  clear hr hb hs hzW
  go_enter Try.func3, Try.ntmps3
  go_wp2_with fail
  refine HG.out.mono ?_
  rintro e w1 ⟨rfl, rfl⟩
  go_wp2_with fail
  refine (awake59_any _).mono ?_
  rintro e w2 ⟨rfl, hb2⟩
  go_wp2_with fail
  go_ret
  exact ⟨rfl, hbW.trans (hb2.mono hbW.size)⟩

set_option maxHeartbeats 4000000 in
set_option maxRecDepth 100000 in
theorem applies_main (k r p a l : Int) (ao : Option Addr) (cap : Nat) (rs : List Reel) (w : World) (hr : Reels w ao rs.length rs) (hs : smallR rs = true) (hl : l ≤ 9223372036854775807) :
    Calls Try.prog 3 #[.slice ao rs.length cap, .agg #[.int .i64 k, .int .i64 r, .int .i64 p, .int .i64 a, .int .i64 l]] w fun e w' => e = .returned (.bool true) ∧ Below w.heap.size w w' := by
  obtain ⟨hl6, hps, hf⟩ := small_fine hs
  obtain ⟨W, hW, hbW, hzW, d0, d1, d2, d3, d4⟩ := dbox w k r p a l
  have HR := Lib.hid (hr.below hbW)
  have HG := great_at (cap := cap) HR.out (fun r hr => ⟨by have := (hps r hr).1; omega, fun x hx => by have := (hps r hr).2 x hx; omega⟩) (by omega) 0 (if_pos hs)
  have HC := Lib.hid (rcopy_r ao rs.length cap rs W HR.out (by omega) (fun r hr => (hf.2 r hr).1))
  obtain ⟨R, hR⟩ : ∃ R, applyR rs ⟨k, r, p, a, l⟩ = R := ⟨_, rfl⟩
  have hbd := applyR_bd (small_bnd hs) ⟨k, r, p, a, l⟩
  rw [hR] at hbd
  have hA : ∀ X, Below W.heap.size W X → Calls Try.prog 14 #[.slice ao rs.length cap, .agg #[.int .i64 k, .int .i64 r, .int .i64 p, .int .i64 a, .int .i64 l]] X fun e w' => ∃ a' c', e = .returned (.slice a' R.length c') ∧ Reels w' a' R.length R ∧ Below X.heap.size X w' := fun X hX => by
    have := apply_r ao rs.length cap rs k r p a l X (HR.out.below hX) hf hl (fun _ => burst8)
    rw [hR] at this
    refine this.mono ?_
    rintro e w' ⟨a', c', h1, h2, _, _, h3⟩
    exact ⟨a', c', h1, h2, h3⟩
  have hB : ∀ X, Below W.heap.size W X → Calls Try.prog 15 #[.slice ao rs.length cap, .agg #[.int .i64 k, .int .i64 r, .int .i64 p, .int .i64 a, .int .i64 l]] X fun e w' => ∃ a' c', e = .returned (.slice a' R.length c') ∧ Reels w' a' R.length R ∧ Below X.heap.size X w' := fun X hX => by
    have := rapply_r ao rs.length cap rs k r p a l X (HR.out.below hX) hf hl
    rwa [hR] at this
  have HA := Lib.hid hA
  have HB := Lib.hid hB
  have HPR := Lib.hid (fun (r : Reel) (hr : r ∈ R) => (show r.ps.length ≤ 9223372036854775807 by have := (hbd.2 r hr).1; omega))
  have HPO := Lib.hid (fun (r : Reel) (hr : r ∈ rs) => (show r.ps.length ≤ 9223372036854775807 by have := (hps r hr).1; omega))
  have HLR : Hid (R.length ≤ 9223372036854775807) := by have := hbd.1; show R.length ≤ _; omega
  have HLO : Hid (rs.length ≤ 9223372036854775807) := by show rs.length ≤ _; omega
  have hlw : w.heap.size < W.heap.size := by omega
  clear hr hs hf hps hzW hA hB hbd hR hl6
  go_enter Try.func3, Try.ntmps3
  go_wp2_with fail
  refine HG.out.mono ?_
  rintro e w1 ⟨rfl, rfl⟩
  go_wp2_with fail
  refine HC.out.mono ?_
  rintro e w2 ⟨aw, cw, rfl, hrw, hb2⟩
  have c0 := (hb2.cell (p := ⟨w.heap.size, 0, none⟩) hlw).trans d0
  have c1 := (hb2.cell (p := ⟨w.heap.size, 1, none⟩) hlw).trans d1
  have c2 := (hb2.cell (p := ⟨w.heap.size, 2, none⟩) hlw).trans d2
  have c3 := (hb2.cell (p := ⟨w.heap.size, 3, none⟩) hlw).trans d3
  have c4 := (hb2.cell (p := ⟨w.heap.size, 4, none⟩) hlw).trans d4
  have HRW := Lib.hid hrw
  have HR2 := Lib.hid (HR.out.below hb2)
  have HB2 := Lib.hid hb2
  have hlw2 : w.heap.size < w2.heap.size := Nat.lt_of_lt_of_le hlw hb2.size
  have hkeep : ∀ X, Below w2.heap.size w2 X → X.cell? ⟨w.heap.size, 0, none⟩ = some (.int .i64 k) ∧ X.cell? ⟨w.heap.size, 1, none⟩ = some (.int .i64 r) ∧ X.cell? ⟨w.heap.size, 2, none⟩ = some (.int .i64 p) ∧ X.cell? ⟨w.heap.size, 3, none⟩ = some (.int .i64 a) ∧ X.cell? ⟨w.heap.size, 4, none⟩ = some (.int .i64 l) := fun X hX =>
    ⟨(hX.cell (p := ⟨w.heap.size, 0, none⟩) hlw2).trans c0, (hX.cell (p := ⟨w.heap.size, 1, none⟩) hlw2).trans c1, (hX.cell (p := ⟨w.heap.size, 2, none⟩) hlw2).trans c2, (hX.cell (p := ⟨w.heap.size, 3, none⟩) hlw2).trans c3, (hX.cell (p := ⟨w.heap.size, 4, none⟩) hlw2).trans c4⟩
  have HK := Lib.hid hkeep
  have hbw2 := hbW.trans (hb2.mono hbW.size)
  have hsz2 := Nat.le_trans hbW.size hb2.size
  have hW2 := hb2.size
  clear hrw hb2 hkeep d0 d1 d2 d3 d4
  go_upto_region 4 with (fail)
  go_region_held3 (fun w' => w'.cell? ⟨w.heap.size, 0, none⟩ = some (.int .i64 k) ∧ w'.cell? ⟨w.heap.size, 1, none⟩ = some (.int .i64 r) ∧ w'.cell? ⟨w.heap.size, 2, none⟩ = some (.int .i64 p) ∧ w'.cell? ⟨w.heap.size, 3, none⟩ = some (.int .i64 a) ∧ w'.cell? ⟨w.heap.size, 4, none⟩ = some (.int .i64 l))
    (first | exact HK.out _ hb7 | exact HK.out _ hb6 | exact HK.out _ hb5 | exact HK.out _ hb4 | exact HK.out _ hb3 | go_keep)
    (first
    | (go_at_call 14; (with_reducible refine (HA.out w2.drew (HB2.out.drew)).mono ?_); rintro e w3 ⟨a3, c3, rfl, hr3, hb3'⟩; have hb3 : Below w2.heap.size w2 w3 := (Below.refl w2.heap.size w2).drew.trans hb3'; have HR3 := Lib.hid hr3; clear hr3 hb3')
    | (go_at_call 15; (with_reducible refine (HB.out w3 (HB2.out.trans (hb3.mono hW2))).mono ?_); rintro e w4 ⟨a4, c4, rfl, hr4, hb4'⟩; have hb4 : Below w2.heap.size w2 w4 := hb3.trans (hb4'.mono hb3.size); have HR4 := Lib.hid hr4; have HR34 := Lib.hid (HR3.out.below hb4'); clear hr4 hb4')
    | (go_at_call 13; (with_reducible refine (same_true a3 a4 R.length c3 c4 R w4 HR34.out HR4.out HLR.out HPR.out).mono ?_); rintro e w5 ⟨rfl, hb5'⟩; have hb5 : Below w2.heap.size w2 w5 := hb4.trans (hb5'.mono hb4.size); clear hb5')
    | (go_at_call 13; (with_reducible refine (same_true ao aw rs.length cap cw rs w5 (HR2.out.below hb5) (HRW.out.below hb5) HLO.out HPO.out).mono ?_); rintro e w6 ⟨rfl, hb6'⟩; have hb6 : Below w2.heap.size w2 w6 := hb5.trans (hb6'.mono hb5.size); clear hb6')
    | (go_at_call 11; refine (awake59_any _).mono ?_; rintro e w7 ⟨rfl, hb7'⟩; have hb7 : Below w2.heap.size w2 w7 := hb6.trans (hb7'.mono hb6.size); clear hb7'))
  go_wp2_with fail
  go_ret
  exact ⟨rfl, hbw2.trans (hb7.mono hsz2)⟩
theorem law_applies (v0 : Value) (rs : List Reel) (v1 : Value) (d : Dmg) (w : World) (hv : ReelsArg w v0 rs) (hd : DmgArg v1 d) :
    Calls Try.prog 3 #[v0, v1] w fun e w' => e = .returned (.bool true) ∧ Below w.heap.size w w' := by
  obtain ⟨ao, cap, rfl, hl, hc, hr, hb⟩ := hv
  obtain ⟨rfl, _, _, _, _, hlen⟩ := hd
  obtain ⟨k, r, p, a, l⟩ := d
  by_cases hs : smallR rs = true
  · exact applies_main k r p a l ao cap rs w hr hs hlen.2
  · exact applies_skip k r p a l ao cap rs w hr (by omega) hb hs
end Go.Proofs.Ytghpolfmhnnbaaa
