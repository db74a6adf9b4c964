/-
  The walks of Split, Parent, Join, Under and Compare of paths.
-/
import Derived.Test.YtgdmclhkoaadmaaDoorPathEls
import Derived.Test.YtgdmclhkoaadmaaDoorJoinW
import Derived.Test.YtgdmclhkoaadmaaDoorStrs
import Derived.Laws.Cover1
namespace Go.Proofs.YtgdmclhkoaadmaaDoor
open Go.RowKit

/-- The components of a valid path; nothing of another. -/
def Path.comps (l : List UInt8) : List (List UInt8) := if Path.err l = 0 then Path.els l else []
theorem Path.comps_le (s : ByteArray) : (Path.comps s.data.toList).length ≤ s.size + 1 := by
  unfold Path.comps
  split
  · exact els_size s
  · simp

set_option maxHeartbeats 1000000 in
theorem psplit_any (s : ByteArray) (w : World) (hs : s.size < 4294967281) :
    Calls Tryd.prog 12 #[.string s] w fun e w' => ∃ v, e = .returned (.tuple #[v, .int .i64 (Path.err s.data.toList)]) ∧ Own w' w.heap.size 9 v (strsL (Path.comps s.data.toList)) ∧ Below w.heap.size w w' := by
  have HC : Hid (Path.comps s.data.toList = if Path.err s.data.toList = 0 then Path.els s.data.toList else []) := Lib.hid rfl
  have hck := fun w => pcheck_any s w hs
  have hel := fun w => elements_any s w hs
  generalize Path.comps s.data.toList = cs at HC ⊢
  generalize Path.err s.data.toList = E at HC hck ⊢
  by_cases h : E = 0
  · subst h
    rw [if_pos rfl] at HC
    go_enter Tryd.func12, Tryd.ntmps12
    go_wp2_with fail
    refine (hck _).mono ?_
    rintro e w' ⟨rfl, hb⟩
    go_wp2_with fail
    refine (hel _).mono ?_
    rintro e w2 ⟨v, rfl, ho, hb2⟩
    go_wp2_with fail
    go_ret2
    exact ⟨v, rfl, by rw [HC.out]; exact ho.more hb.size, bchain hb hb2⟩
  · rw [if_neg h] at HC
    have hne : (E != 0) = true := bne_iff_ne.2 h
    clear h
    go_enter Tryd.func12, Tryd.ntmps12
    go_wp2_with fail
    refine (hck _).mono ?_
    rintro e w' ⟨rfl, hb⟩
    go_wp2_with fail
    go_ret2
    exact ⟨_, rfl, by rw [HC.out]; exact Own.nil _ _ _, hb⟩

theorem jn_small {l : List UInt8} (h : Path.err l = 0) (k : Nat) : (Path.jn ((Path.els l).take k)).length ≤ 200 := by
  have h1 : (Path.jn ((Path.els l).take k)).length ≤ (Path.jn (Path.els l)).length := Sep.jn_length_take (Path.els l) k
  rw [show Path.jn (Path.els l) = l from Sep.jn_els l] at h1
  have := (Path.err_ok_iff.1 h).1
  omega

set_option maxHeartbeats 1000000 in
theorem parent_any (s : ByteArray) (w : World) (hs : s.size < 4294967281) :
    Calls Tryd.prog 14 #[.string s] w fun e w' => e = .returned (.tuple #[.string ⟨(Path.parentV s.data.toList).toArray⟩, .int .i64 (Path.parentE s.data.toList)]) ∧ Below w.heap.size w w' := by
  have hsp := psplit_any s w hs
  by_cases h : Path.err s.data.toList = 0
  rotate_left
  · have e1 : Path.parentV s.data.toList = [] := by rw [Path.parentV, if_pos h]
    have e2 : Path.parentE s.data.toList = Path.err s.data.toList := by rw [Path.parentE, if_pos h]
    rw [e1, e2]
    clear e1 e2
    generalize Path.err s.data.toList = E at hsp h ⊢
    have hne : (E != 0) = true := bne_iff_ne.2 h
    clear h
    go_enter Tryd.func14, Tryd.ntmps14
    go_wp2_with fail
    refine hsp.mono ?_
    rintro e w' ⟨v, rfl, ho, hb⟩
    go_wp2_with fail
    go_ret2
    exact ⟨rfl, hb⟩
  · have e1 : Path.parentV s.data.toList = Path.jn ((Path.els s.data.toList).take ((Path.els s.data.toList).length - 1)) := by rw [Path.parentV, if_neg (by omega), List.dropLast_eq_take]
    have e2 : Path.parentE s.data.toList = if s.data.toList = [] then 1 else 0 := by rw [Path.parentE, if_neg (by omega)]
    have e3 : Path.comps s.data.toList = Path.els s.data.toList := by rw [Path.comps, if_pos h]
    have hnil := Sep.els_eq_nil (q := 47) (l := s.data.toList)
    have hz := els_size s
    have hsm := jn_small h ((Path.els s.data.toList).length - 1)
    rw [h, e3] at hsp
    rw [e1, e2]
    clear e1 e2 e3 h
    by_cases hn : s.data.toList = []
    · have e4 : Path.els s.data.toList = [] := hnil.2 hn
      rw [e4] at hsp ⊢
      rw [if_pos hn]
      clear hnil hn e4 hz hsm
      go_enter Tryd.func14, Tryd.ntmps14
      go_wp2_with fail
      refine hsp.mono ?_
      rintro e w' ⟨v, rfl, ho, hb⟩
      obtain ⟨ao, cap, rfl, _⟩ := ho.form
      go_wp2_with fail
      go_ret2
      exact ⟨rfl, hb⟩
    · rw [if_neg hn]
      have hne : Path.els s.data.toList ≠ [] := fun e => hn (hnil.1 e)
      clear hnil hn
      generalize Path.els s.data.toList = xs at *
      have hlen : 0 < xs.length := List.length_pos_iff.2 hne
      clear hne
      go_enter Tryd.func14, Tryd.ntmps14
      go_wp2_with fail
      refine hsp.mono ?_
      rintro e w' ⟨v, rfl, ho, hb⟩
      obtain ⟨ao, cap, rfl, hao⟩ := ho.form
      obtain ⟨g, rfl⟩ := hao (by rw [strsL_length]; exact hlen)
      rw [strsL_length] at ho ⊢
      have hcap := ho.cap
      have hj := fun w1 (h1 : Strs w1 (some ⟨g, 0, none⟩) (xs.length - 1) (xs.take (xs.length - 1))) => join_any (some ⟨g, 0, none⟩) (xs.length - 1) cap (xs.take (xs.length - 1)) 47 w1 h1.1 h1.2 (by rw [List.length_take]; omega) (by rw [List.length_take]; omega) (Nat.le_trans hsm (by decide))
      have hc1 : ((xs.length : Int) - 1) = ((xs.length - 1 : Nat) : Int) := by omega
      go_wp2_with fail
      refine (hj _ (ho.read.take _ (by omega))).mono ?_
      rintro e w2 ⟨rfl, hb2⟩
      go_wp2_with fail
      go_ret2
      exact ⟨rfl, bchain hb hb2⟩

theorem joinP_len {d n : List UInt8} (h : Path.err d = 0) (hn : Path.comp n = true) : (Sep.jn 47 (Path.els d ++ [n])).length ≤ 300 := by
  have h1 := (Path.err_ok_iff.1 h).1
  have h2 : n.length ≤ 32 := by
    simp only [Path.comp, Bool.and_eq_true, decide_eq_true_eq] at hn
    exact hn.1.1.1.2
  by_cases e : Path.els d = []
  · rw [e]
    simp [Sep.jn, Sep.tl]
    omega
  · rw [Sep.jn_snoc _ _ e, List.length_append, List.length_cons, show Sep.jn 47 (Path.els d) = d from Sep.jn_els d]
    omega
set_option maxHeartbeats 1000000 in
theorem pjoin_any (s n : ByteArray) (w : World) (hs : s.size < 4294967281) :
    Calls Tryd.prog 20 #[.string s, .string n] w fun e w' => e = .returned (.tuple #[.string ⟨(Path.joinV s.data.toList n.data.toList).toArray⟩, .int .i64 (Path.joinE s.data.toList n.data.toList)]) ∧ Below w.heap.size w w' := by
  have hsp := psplit_any s w hs
  have hcm := fun w => component_any n w
  by_cases h : Path.err s.data.toList = 0
  rotate_left
  · have e2 : Path.joinE s.data.toList n.data.toList = Path.err s.data.toList := by rw [Path.joinE, if_pos h]
    have e1 : Path.joinV s.data.toList n.data.toList = [] := by rw [Path.joinV, e2, if_neg h]
    rw [e1, e2]
    clear e1 e2
    generalize Path.err s.data.toList = E at hsp h ⊢
    have hne : (E != 0) = true := bne_iff_ne.2 h
    clear h
    go_enter Tryd.func20, Tryd.ntmps20
    go_wp2_with fail
    refine hsp.mono ?_
    rintro e w' ⟨v, rfl, ho, hb⟩
    go_wp2_with fail
    go_ret2
    exact ⟨rfl, hb⟩
  have e3 : Path.comps s.data.toList = Path.els s.data.toList := by rw [Path.comps, if_pos h]
  rw [h, e3] at hsp
  cases hc : Path.comp n.data.toList
  · have e2 : Path.joinE s.data.toList n.data.toList = 7 := by rw [Path.joinE, if_neg (by omega), hc]; rfl
    have e1 : Path.joinV s.data.toList n.data.toList = [] := by rw [Path.joinV, e2, if_neg (by decide)]
    rw [e1, e2]
    rw [hc] at hcm
    clear e1 e2 e3 h hc
    go_enter Tryd.func20, Tryd.ntmps20
    go_wp2_with fail
    refine hsp.mono ?_
    rintro e w' ⟨v, rfl, ho, hb⟩
    go_wp2_with fail
    refine (hcm _).mono ?_
    rintro e w2 ⟨rfl, hb2⟩
    go_wp2_with fail
    go_ret2
    exact ⟨rfl, bchain hb hb2⟩
  have e2 : Path.joinE s.data.toList n.data.toList = Path.err (Sep.jn 47 (Path.els s.data.toList ++ [n.data.toList])) := by rw [Path.joinE, if_neg (by omega), if_pos hc]; rfl
  have e1 : Path.joinV s.data.toList n.data.toList = if Path.err (Sep.jn 47 (Path.els s.data.toList ++ [n.data.toList])) = 0 then Sep.jn 47 (Path.els s.data.toList ++ [n.data.toList]) else [] := by rw [Path.joinV, e2]; rfl
  have hlen := joinP_len h hc
  have h8 := (Path.err_ok_iff.1 h).2.1
  rw [e1, e2]
  rw [hc] at hcm
  clear e1 e2 e3 h hc
  generalize Path.els s.data.toList = xs at *
  have hj := fun ao cap w1 (h1 : Strs w1 ao (xs.length + 1) (xs ++ [n.data.toList])) (hcap : xs.length + 1 ≤ cap) => join_any ao (xs.length + 1) cap (xs ++ [n.data.toList]) 47 w1 h1.1 h1.2 (by rw [List.length_append]; simp; omega) (by simpa using hcap) (by omega)
  obtain ⟨P, hP⟩ : ∃ P, Sep.jn 47 (xs ++ [n.data.toList]) = P := ⟨_, rfl⟩
  rw [hP] at hj hlen ⊢
  clear hP
  have hck := fun w => pcheck_any ⟨P.toArray⟩ w (by rw [mk_size]; omega)
  have e5 : (⟨P.toArray⟩ : ByteArray).data.toList = P := rfl
  rw [e5] at hck
  clear e5
  obtain ⟨E, hE⟩ : ∃ E, Path.err P = E := ⟨_, rfl⟩
  rw [hE] at hck ⊢
  clear hE hlen
  have hfin : E = 0 ∨ (E != 0) = true := by
    rcases Classical.em (E = 0) with e | e
    · exact .inl e
    · exact .inr (bne_iff_ne.2 e)
  have hv : Hid ((if E = 0 then P else []) = if E = 0 then P else []) := Lib.hid rfl
  obtain ⟨V, hV⟩ : ∃ V, (if E = 0 then P else []) = V := ⟨_, rfl⟩
  have HV := Lib.hid hV
  rw [hV]
  clear hV hv
  have HF := Lib.hid hfin
  clear hfin
  go_enter Tryd.func20, Tryd.ntmps20
  go_wp2_with fail
  refine hsp.mono ?_
  rintro e w' ⟨v, rfl, ho, hb⟩
  go_wp2_with fail
  refine (hcm _).mono ?_
  rintro e w2 ⟨rfl, hb2⟩
  have ho2 := ho.below hb2 (Nat.le_refl _)
  have hb3 := bchain hb hb2
  have hl : (strsL xs).length ≤ 8 := by rw [strsL_length]; omega
  clear ho hb hb2
  go_wp2_with (at_builtin; refine wpList_app1 9 23 _ 16 info_str Tryd.underlying23 rfl rfl _ _ rfl _ _ _ rfl ho2 _ rfl rfl (by omega) (by omega) hb3.size ?_; intro v' w3 hown3 hb4 _)
  rw [strsL_snoc'] at hown3
  obtain ⟨ao, cap, rfl, _⟩ := hown3.form
  rw [strsL_length, List.length_append, List.length_singleton] at hown3 ⊢
  have hb5 := hb3.trans hb4
  refine (hj _ _ _ hown3.read hown3.cap).mono ?_
  rintro e w4 ⟨rfl, hb6⟩
  have hb7 := bchain hb5 hb6
  clear hb3 hb4 hb5 hb6
  go_wp2_with fail
  refine (hck _).mono ?_
  rintro e w5 ⟨rfl, hb8⟩
  have hb9 := bchain hb7 hb8
  rcases HF.out with rfl | hne
  · rw [if_pos rfl] at HV
    go_wp2_with fail
    go_ret2
    exact ⟨by rw [← HV.out]; rfl, hb9⟩
  · have h0 : E ≠ 0 := bne_iff_ne.1 hne
    rw [if_neg h0] at HV
    clear h0
    go_wp2_with fail
    go_ret2
    exact ⟨by rw [← HV.out]; rfl, hb9⟩
end Go.Proofs.YtgdmclhkoaadmaaDoor
