/-
  The law Rebuilds of paths, walked, for strings below 2^32 - 15 bytes.
-/
import Derived.Test.YtgdmclhkoaadmaaDoorPathLaw2
namespace Go.Proofs.YtgdmclhkoaadmaaDoor
open Go.RowKit

namespace Path
def pre (l : List UInt8) (i : Nat) : List UInt8 := jn ((els l).take i)
theorem take_snoc {xs : List (List UInt8)} {i : Nat} {c : List UInt8} (h : xs[i]? = some c) : xs.take (i + 1) = xs.take i ++ [c] := by
  rw [List.take_add_one, h]
  rfl
theorem pre_facts {l : List UInt8} (h : err l = 0) {i : Nat} {c : List UInt8} (hc : (els l)[i]? = some c) :
    joinE (pre l i) c = 0 ∧ joinV (pre l i) c = pre l (i + 1) ∧ parentE (pre l (i + 1)) = 0 ∧ parentV (pre l (i + 1)) = pre l i ∧ under l (pre l (i + 1)) = true ∧ under (pre l (i + 1)) (pre l i) = true ∧ under (pre l i) (pre l (i + 1)) = false := by
  obtain ⟨e1, e2⟩ := ok_take h i
  obtain ⟨f1, f2⟩ := ok_take h (i + 1)
  have hlt := (List.getElem?_eq_some_iff.1 hc).1
  have hcomp : comp c = true := (err_ok_iff.1 h).2.2 c (List.mem_of_getElem? hc)
  have hP : joinP (pre l i) c = pre l (i + 1) := by
    show jn (els (jn ((els l).take i)) ++ [c]) = jn ((els l).take (i + 1))
    rw [e2, take_snoc hc]
  have hE : joinE (pre l i) c = 0 := by
    unfold joinE
    rw [if_neg (by show ¬ err (jn _) ≠ 0; omega), if_pos hcomp, hP]
    exact f1
  have hlen : ((els l).take (i + 1)).length = i + 1 := by rw [List.length_take]; omega
  have hne : pre l (i + 1) ≠ [] := by
    intro e
    have : els (pre l (i + 1)) = [] := by rw [e]; rfl
    rw [show els (pre l (i + 1)) = (els l).take (i + 1) from f2] at this
    rw [this] at hlen
    simp at hlen
  refine ⟨hE, by rw [joinV, if_pos hE, hP], ?_, ?_, ?_, ?_, ?_⟩
  · unfold parentE
    rw [if_neg (by show ¬ err (jn _) ≠ 0; omega), if_neg hne]
  · unfold parentV
    rw [if_neg (by show ¬ err (jn _) ≠ 0; omega)]
    show jn (els (jn ((els l).take (i + 1)))).dropLast = jn ((els l).take i)
    rw [f2, take_snoc hc, List.dropLast_concat]
  · refine under_iff.2 ⟨h, f1, ?_⟩
    show els (jn ((els l).take (i + 1))) <+: els l
    rw [f2]
    exact List.take_prefix _ _
  · refine under_iff.2 ⟨f1, e1, ?_⟩
    show els (jn ((els l).take i)) <+: els (jn ((els l).take (i + 1)))
    rw [f2, e2, take_snoc hc]
    exact List.prefix_append _ _
  · rw [Bool.eq_false_iff, Ne, under_iff]
    rintro ⟨_, _, hp⟩
    have hp2 : els (jn ((els l).take (i + 1))) <+: els (jn ((els l).take i)) := hp
    rw [f2, e2] at hp2
    have := hp2.length_le
    rw [hlen, List.length_take] at this
    omega
theorem pre_len {l : List UInt8} (h : err l = 0) (i : Nat) : (pre l i).length ≤ 200 := jn_small h i
theorem pre_all (l : List UInt8) : pre l (els l).length = l := by
  unfold pre
  rw [List.take_length]
  exact Sep.jn_els l
end Path

set_option maxHeartbeats 4000000 in
set_option maxRecDepth 100000 in
theorem law_rebuilds (a0 : ByteArray) (hs2 : a0.size ≤ 1048576) (w : World) :
    Calls Tryd.prog 10 #[.string a0] w fun e w' => e = .returned (.bool true) ∧ Below w.heap.size w w' := by
  have caw := fun w => awake31_any w
  have hs : a0.size < 4294967281 := by omega
  have csp := psplit_any a0 w hs
  by_cases h0 : 300 < (a0.size : Int)
  · generalize Path.err a0.data.toList = E at *
    go_enter Tryd.func10, Tryd.ntmps10
    go_wp2_with fail
    refine csp.mono ?_
    rintro e w1 ⟨v1, rfl, ho1, hb1⟩
    go_wp2_with fail
    refine (caw _).mono ?_
    rintro e w2 ⟨rfl, hb2⟩
    go_wp2_with fail
    go_ret
    exact ⟨rfl, bchain hb1 hb2⟩
  by_cases h1 : Path.err a0.data.toList = 0
  rotate_left
  · have hne : (Path.err a0.data.toList != 0) = true := bne_iff_ne.2 h1
    clear h1
    generalize Path.err a0.data.toList = E at *
    go_enter Tryd.func10, Tryd.ntmps10
    go_wp2_with fail
    refine csp.mono ?_
    rintro e w1 ⟨v1, rfl, ho1, hb1⟩
    go_wp2_with fail
    refine (caw _).mono ?_
    rintro e w2 ⟨rfl, hb2⟩
    go_wp2_with fail
    go_ret
    exact ⟨rfl, bchain hb1 hb2⟩
  have hcs : Path.comps a0.data.toList = Path.els a0.data.toList := by rw [Path.comps, if_pos h1]
  rw [h1, hcs] at csp
  have hz := els_size a0
  have HF := Lib.hid fun (i : Nat) (c : List UInt8) (hc : (Path.els a0.data.toList)[i]? = some c) => Path.pre_facts h1 hc
  have HL := Lib.hid fun i => Path.pre_len h1 i
  have HA := Lib.hid (Path.pre_all a0.data.toList)
  have H0 : Hid (Path.pre a0.data.toList 0 = []) := Lib.hid rfl
  have HP : Hid (Path.pre a0.data.toList = Path.pre a0.data.toList) := Lib.hid rfl
  obtain ⟨xs, hxs⟩ : ∃ xs, Path.els a0.data.toList = xs := ⟨_, rfl⟩
  rw [hxs] at csp hz HF HA
  obtain ⟨P, hP⟩ : ∃ P, Path.pre a0.data.toList = P := ⟨_, rfl⟩
  rw [hP] at HF HL HA H0
  clear h1 hcs hxs hP HP
  go_enter Tryd.func10, Tryd.ntmps10
  go_wp2_with fail
  refine csp.mono ?_
  rintro e w1 ⟨v1, rfl, ho1, hb1⟩
  obtain ⟨ao, cap, rfl, hao⟩ := ho1.form
  rw [strsL_length] at ho1 hao ⊢
  go_wp2_with fail
  go_loopw [5, 26] (fun p i wr => ∃ (k : Nat) (S : ByteArray), k ≤ xs.length ∧ i = .int .i64 k ∧ p = .string S ∧ Hid (S.data.toList = P k) ∧ Below w1.heap.size w1 wr) (fun _ i _ => xs.length - (intOf i).toNat)
  case atStart => exact ⟨0, ByteArray.empty, Nat.zero_le _, rfl, rfl, by show _ = _; rw [H0.out]; rfl, Below.refl _ _⟩
  case round =>
    obtain ⟨k, S, hk, rfl, rfl, hS, hb⟩ := hrel
    by_cases hlt : k < xs.length
    · obtain ⟨x, hx⟩ : ∃ x, xs[k]? = some x := ⟨_, List.getElem?_eq_getElem hlt⟩
      obtain ⟨g, rfl⟩ := hao (by omega)
      have hcell := (ho1.below hb (Nat.le_refl _)).cell k _ (strsL_get xs k x hx)
      obtain ⟨f1, f2, f3, f4, f5, f6, f7⟩ := HF.out k x hx
      have hl1 := HL.out k
      have hl2 := HL.out (k + 1)
      rw [← hS.out] at f1 f2 f4 f6 f7 hl1
      have hx3 : (⟨x.toArray⟩ : ByteArray).data.toList = x := rfl
      rw [← hx3] at f1 f2
      generalize (⟨x.toArray⟩ : ByteArray) = X at hcell f1 f2 hx3
      obtain ⟨Q, hQ⟩ : ∃ Q : ByteArray, Q.data.toList = P (k + 1) := ⟨⟨(P (k + 1)).toArray⟩, rfl⟩
      rw [← hQ] at f2 f3 f4 f5 f6 f7 hl2
      have HQ := Lib.hid hQ
      rw [toList_length] at hl1 hl2
      have cj := fun w => pjoin_any S X w (by omega)
      have cp := fun w => parent_any Q w (by omega)
      have cu1 := fun w => under_any a0 Q w (by omega) (by omega)
      have cu2 := fun w => under_any Q S w (by omega) (by omega)
      have cu3 := fun w => under_any S Q w (by omega) (by omega)
      rw [f1, f2, mk_toList] at cj
      rw [f3, f4, mk_toList] at cp
      rw [f5] at cu1
      rw [f6] at cu2
      rw [f7] at cu3
      clear f1 f2 f3 f4 f5 f6 f7 hx3 hQ hx
      have hSS : (S.toList == S.toList) = true := beq_self_eq_true _
      go_wp2_with fail
      refine (cj _).mono ?_
      rintro e w3 ⟨rfl, hb3⟩
      go_wp2_with fail
      refine (cp _).mono ?_
      rintro e w4 ⟨rfl, hb4⟩
      go_wp2_with fail
      refine (cu1 _).mono ?_
      rintro e w5 ⟨rfl, hb5⟩
      go_wp2_with fail
      refine (cu2 _).mono ?_
      rintro e w6 ⟨rfl, hb6⟩
      go_wp2_with fail
      refine (cu3 _).mono ?_
      rintro e w7 ⟨rfl, hb7⟩
      have hb8 := bchain (bchain (bchain (bchain (bchain hb hb3) hb4) hb5) hb6) hb7
      clear hb hb3 hb4 hb5 hb6 hb7
      go_wp2_with fail
      go_roundw
      case rel => exact ⟨k + 1, Q, by omega, by go_num, rfl, HQ, hb8⟩
      case measure => simp [intOf]; omega
    · obtain rfl : k = xs.length := by omega
      have h := hS.out
      rw [HA.out] at h
      have h2 := of_toList h
      subst h2
      have hSS : (S.toList == S.toList) = true := beq_self_eq_true _
      clear h
      go_wp2_with fail
      refine (caw _).mono ?_
      rintro e w2 ⟨rfl, hb2⟩
      go_wp2_with fail
      go_ret
      exact ⟨rfl, bchain (bchain hb1 hb) hb2⟩
end Go.Proofs.YtgdmclhkoaadmaaDoor
