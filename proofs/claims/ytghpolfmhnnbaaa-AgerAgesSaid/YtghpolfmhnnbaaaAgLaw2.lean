/-
  ager.Age; the walk of AgerAges.
-/
import Derived.Test.YtghpolfmhnnbaaaAgBnd
import Derived.Test.YtghpolfmhnnbaaaAgSame2
import Derived.Test.YtghpolfmhnnbaaaAgLaw1
namespace Go.Proofs.Ytghpolfmhnnbaaa
open Go.RowKit

theorem plan_take {rs : List Reel} {n k : Nat} {s : Int} (h : k < n) : (plan rs n s).take (k + 1) = (plan rs n s).take k ++ [dmgOf rs (stK k s)] := by
  rw [List.take_add_one, plan_get rs n k s h]
  rfl
theorem dmgOf_in {rs : List Reel} (s : Int) : (dmgOf rs s).len ≤ 9223372036854775807 := by
  have := pkLen_bd s
  show pkLen s ≤ _
  omega

set_option maxHeartbeats 4000000 in
set_option maxRecDepth 100000 in
theorem age_any (s : Int) (N : Nat) (ao : Option Addr) (cap : Nat) (rs : List Reel) (w : World) (hr : Reels w ao rs.length rs) (hf : Bnd 6 rs) (hN : N ≤ 200) :
    Calls Try.prog 20 #[.slice ao rs.length cap, .int .u64 s, .int .i64 N] w fun e w' => ∃ a' c', e = .returned (.slice a' (ageR rs (plan rs N s)).length c') ∧ Reels w' a' (ageR rs (plan rs N s)).length (ageR rs (plan rs N s)) ∧ Below w.heap.size w w' := by
  have hfine := hf.fine (by omega)
  have pn : planN N = N := by unfold planN; split <;> (try split) <;> omega
  have PN := Lib.hid pn
  have HR := Lib.hid hr
  have HF := Lib.hid hf
  have HE := Lib.hid hfine
  have HC := Lib.hid (copies_any ao rs.length cap rs w hr hfine.1 (fun r hr => (hfine.2 r hr).1))
  clear hr hf pn hfine
  go_enter Try.func20, Try.ntmps20
  go_wp2_with fail
  refine HC.out.mono ?_
  rintro e w1 ⟨v, rfl, ho, hb1⟩
  obtain ⟨a1, c1, rfl, _⟩ := ho.form
  have hr1 := ho.read
  clear ho
  go_wp2_with fail
  refine (plan_form s N N PN.out ao rs.length cap rs _ (HR.out.below hb1) HE.out (by omega) (by omega)).mono ?_
  rintro e w2 ⟨ad, cd, rfl, hd, hb2⟩
  have hb12 := hb1.trans (hb2.mono hb1.size)
  have HD := Lib.hid hd
  have HR1 := Lib.hid (hr1.below hb2)
  clear hd hr1
  go_wp2_with fail
  go_loopw [7, 17] (fun v i wr => ∃ k : Nat, k ≤ N ∧ i = .int .i64 k ∧ Below w2.heap.size w2 wr ∧ ∃ a' n' c', v = .slice a' n' c' ∧ Reels wr a' n' (ageR rs ((plan rs N s).take k))) (fun _ i _ => N - (intOf i).toNat)
  case atStart => exact ⟨0, Nat.zero_le _, rfl, Below.refl _ _, a1, _, c1, rfl, HR1.out⟩
  case round =>
    obtain ⟨k, hk, rfl, hb, a', n', c', rfl, hrr⟩ := hrel
    by_cases hlt : k < N
    · obtain ⟨b1, o1, had, x0, x1, x2, x3, x4⟩ := (HD.out.below hb).2 k _ (plan_get rs N k s hlt)
      subst had
      have hbd := ageR_bd HF.out ((plan rs N s).take k)
      have hfn : Fine (ageR rs ((plan rs N s).take k)) := hbd.fine (by rw [List.length_take, plan_length]; omega)
      have hld := dmgOf_in (rs := rs) (stK k s)
      have hsn := congrArg (ageR rs) (plan_take (rs := rs) (s := s) hlt)
      rw [ageR_snoc] at hsn
      have HSN := Lib.hid hsn
      generalize hD : dmgOf rs (stK k s) = D at *
      clear hD hsn
      obtain ⟨d0, d1, d2, d3, d4⟩ := D
      obtain ⟨W, hW, hbW, hzW, y0, y1, y2, y3, y4⟩ := dbox wr d0 d1 d2 d3 d4
      have HAP := Lib.hid (apply_r a' n' c' _ d0 d1 d2 d3 d4 W (hrr.below hbW) hfn hld (fun _ => burst8))
      have hbb := hb.trans (hbW.mono hb.size)
      clear hrr hzW
      go_wp2_with fail
      refine HAP.out.mono ?_
      rintro e w3 ⟨a2, c2, rfl, hr2, _, _, hb3⟩
      have hfin := hbb.trans (hb3.mono hbb.size)
      rw [← HSN.out] at hr2
      have HR2 := Lib.hid hr2
      clear hr2
      go_wp2_with fail
      go_roundw
      case rel => first | exact ⟨k + 1, by omega, by go_num, hfin, a2, _, c2, rfl, by rw [HSN.out] at *; first | exact HR2.out | (have := HR2.out; rw [HSN.out] at this; exact this)⟩ | ((repeat apply Exists.intro); exact ⟨⟨k + 1, by omega, by go_num, hfin, a2, _, c2, rfl, HR2.out⟩, rfl⟩)
      case measure => simp [intOf]; omega
    · obtain rfl : k = N := by omega
      rw [List.take_of_length_le (by rw [plan_length]; omega)] at hrr
      have hn := reels_len hrr
      subst hn
      go_wp2_with fail
      go_ret
      exact ⟨a', c', rfl, hrr, hb12.trans (hb.mono hb12.size)⟩
end Go.Proofs.Ytghpolfmhnnbaaa
