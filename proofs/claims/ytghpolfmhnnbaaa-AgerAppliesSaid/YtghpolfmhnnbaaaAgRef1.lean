/-
  The reference: invert, pieces.
-/
import Derived.Test.YtghpolfmhnnbaaaAgRep
import Derived.Test.YtghpolfmhnnbaaaAgEdC
namespace Go.Proofs.Ytghpolfmhnnbaaa
open Go.RowKit

set_option maxHeartbeats 400000 in
theorem rinvert_any (c : UInt8) (w : World) : Calls Try.prog 41 #[.int .u8 c.toNat] w fun e w' => e = .returned (.int .u8 (inv1 c).toNat) ∧ w = w' := by
  by_cases h8 : c = 48
  · subst h8
    go_enter Try.func41, Try.ntmps41
    go_wp2_with fail
    go_ret
    exact ⟨rfl, rfl⟩
  · by_cases h9 : c = 49
    · subst h9
      go_enter Try.func41, Try.ntmps41
      go_wp2_with fail
      go_ret
      exact ⟨rfl, rfl⟩
    · have e8 : ((c.toNat : Int) == 48) = false := by rw [beq48]; simpa using h8
      have e9 : ((c.toNat : Int) == 49) = false := by rw [beq49]; simpa using h9
      have hv : inv1 c = c := by unfold inv1; rw [if_neg h8, if_neg h9]
      rw [hv]
      clear h8 h9 hv
      go_enter Try.func41, Try.ntmps41
      go_wp2_with fail
      go_ret
      exact ⟨rfl, rfl⟩

set_option maxHeartbeats 2000000 in
theorem rpieces_any (ao bo : Option Addr) (n cap m bc i : Nat) (ps bs : List (List UInt8)) (w : World) (hr : Strs w ao n ps) (hb : Strs w bo m bs) (hi : i < n) (hc : n ≤ cap) (hn : n ≤ 65536) (hm : m ≤ 65536) (hcap : cap ≤ 9223372036854775807) :
    Calls Try.prog 25 #[.slice ao n cap, .int .i64 i, .slice bo m bc] w fun e w' => ∃ v, e = .returned v ∧ Own w' w.heap.size 9 v (strsL (rep ps i bs)) ∧ Below w.heap.size w w' := by
  have HR := Lib.hid hr
  have HB := Lib.hid hb
  have hnl := hr.1
  have hml := hb.1
  have e3 : (ps.take i).length = i := by rw [List.length_take]; omega
  have E3 := Lib.hid e3
  have l1 : i ≤ cap := by omega
  have l2 : i + 1 ≤ n := by omega
  have l3 : i + 1 ≤ cap := by omega
  have e0 : 0 ≤ (i : Int) + 1 := by omega
  have l4 : (i : Int) + 1 ≤ (n : Int) := by omega
  have l5 : (i : Int) + 1 ≤ (cap : Int) := by omega
  have e1 : IntKind.i64.wrap ((i : Int) + 1) = (i : Int) + 1 := IntWalk.i64_in _ (by omega)
  have e2 : ((i : Int) + 1).toNat = i + 1 := by omega
  have HML := Lib.hid hml
  have HEQ : Hid (ps.take i ++ bs ++ ps.drop (i + 1) = rep ps i bs) := List.append_assoc ..
  have hr1 := hr.below ((Below.refl _ w).alloc (Nat.le_refl _) (.cells #[] 9))
  have HT := Lib.hid (hr1.take i (by omega))
  clear hr hb hnl hml e3 hr1
  go_enter Try.func25, Try.ntmps25
  have hs := fun (X : World) (h : Below w.heap.size w X) => (HR.out.below h).tail (i + 1) l2 hc
  by_cases hce : cap = i + 1
  · simp only [tailA, if_pos hce] at hs
    have HS := Lib.hid hs
    clear hs
    go_wp2_with (first
    | (at_builtin; refine wpList_appRead rfl (.tmp 8) (.tmp 11) rfl w.heap.size _ [] rfl (Own.made0 w _ _ (Nat.le_refl _)) _ _ _ (ps.take i) rfl HT.out (by simp; omega) (by simp) ?_; intro v1 w1 ho1 hb1 _; have hb01 := ((Below.refl _ w).alloc (Nat.le_refl _) (.cells #[] 9)).trans hb1; rw [List.nil_append] at ho1)
    | (at_builtin; refine wpList_appRead rfl (.tmp 13) (.tmp 14) rfl w.heap.size _ (ps.take i) rfl ho1 _ _ _ bs rfl (HB.out.below hb01) (by rw [E3.out]; omega) hb01.size ?_; intro v2 w2 ho2 hb2 _; have hb02 := hb01.trans hb2)
    | (at_builtin; refine wpList_appRead rfl (.tmp 16) (.tmp 20) rfl w.heap.size _ (ps.take i ++ bs) rfl ho2 _ _ _ (ps.drop (i + 1)) rfl (HS.out w2 hb02) (by rw [List.length_append, E3.out, ← HML.out]; omega) hb02.size ?_; intro v3 w3 ho3 hb3 _))
    go_ret
    rw [HEQ.out] at ho3
    exact ⟨_, rfl, ho3, hb02.trans hb3⟩
  · simp only [tailA, if_neg hce] at hs
    have HS := Lib.hid hs
    clear hs
    go_wp2_with (first
    | (at_builtin; refine wpList_appRead rfl (.tmp 8) (.tmp 11) rfl w.heap.size _ [] rfl (Own.made0 w _ _ (Nat.le_refl _)) _ _ _ (ps.take i) rfl HT.out (by simp; omega) (by simp) ?_; intro v1 w1 ho1 hb1 _; have hb01 := ((Below.refl _ w).alloc (Nat.le_refl _) (.cells #[] 9)).trans hb1; rw [List.nil_append] at ho1)
    | (at_builtin; refine wpList_appRead rfl (.tmp 13) (.tmp 14) rfl w.heap.size _ (ps.take i) rfl ho1 _ _ _ bs rfl (HB.out.below hb01) (by rw [E3.out]; omega) hb01.size ?_; intro v2 w2 ho2 hb2 _; have hb02 := hb01.trans hb2)
    | (at_builtin; refine wpList_appRead rfl (.tmp 16) (.tmp 20) rfl w.heap.size _ (ps.take i ++ bs) rfl ho2 _ _ _ (ps.drop (i + 1)) rfl (HS.out w2 hb02) (by rw [List.length_append, E3.out, ← HML.out]; omega) hb02.size ?_; intro v3 w3 ho3 hb3 _))
    go_ret
    rw [HEQ.out] at ho3
    exact ⟨_, rfl, ho3, hb02.trans hb3⟩
end Go.Proofs.Ytghpolfmhnnbaaa
