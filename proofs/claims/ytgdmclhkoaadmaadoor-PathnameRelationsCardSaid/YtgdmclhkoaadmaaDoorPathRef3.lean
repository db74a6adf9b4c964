/-
  The walk of the reference's Join.
-/
import Derived.Test.YtgdmclhkoaadmaaDoorPathRef2
namespace Go.Proofs.YtgdmclhkoaadmaaDoor
open Go.RowKit

set_option maxHeartbeats 1000000 in
theorem rjoin_any (s n : ByteArray) (w : World) (hs : s.size ≤ 65536) (hn : n.size ≤ 65536) :
    Calls Tryd.prog 21 #[.string s, .string n] w fun e w' => e = .returned (.tuple #[.string ⟨(Path.joinV s.data.toList n.data.toList).toArray⟩, .int .i64 (Path.joinE s.data.toList n.data.toList)]) ∧ Below w.heap.size w w' := by
  have hsp := rsplit31_any s w hs
  have hcm := fun w => rcomponent_any n w hn
  by_cases h : Path.err s.data.toList = 0
  rotate_left
  · have e2 : Path.joinE s.data.toList n.data.toList = Path.err s.data.toList := by rw [Path.joinE, if_pos h]
    have e1 : Path.joinV s.data.toList n.data.toList = [] := by rw [Path.joinV, e2, if_neg h]
    rw [e1, e2]
    clear e1 e2
    generalize Path.err s.data.toList = E at hsp h ⊢
    have hne : (E != 0) = true := bne_iff_ne.2 h
    clear h
    go_enter Tryd.func21, Tryd.ntmps21
    go_wp2_with fail
    refine hsp.mono ?_
    rintro e w' ⟨v, rfl, ho, hb⟩
    go_wp2_with fail
    go_ret2
    exact ⟨rfl, hb⟩
  have e3 : Path.comps s.data.toList = Path.els s.data.toList := by rw [Path.comps, if_pos h]
  rw [h, e3] at hsp
  cases hc : Path.comp n.data.toList
  · have e2 : Path.joinE s.data.toList n.data.toList = 7 := by rw [Path.joinE, if_neg (by omega), hc]; rfl
    have e1 : Path.joinV s.data.toList n.data.toList = [] := by rw [Path.joinV, e2, if_neg (by decide)]
    rw [e1, e2]
    rw [hc] at hcm
    clear e1 e2 e3 h hc
    go_enter Tryd.func21, Tryd.ntmps21
    go_wp2_with fail
    refine hsp.mono ?_
    rintro e w' ⟨v, rfl, ho, hb⟩
    go_wp2_with fail
    refine (hcm _).mono ?_
    rintro e w2 ⟨rfl, rfl⟩
    go_wp2_with fail
    go_ret2
    exact ⟨rfl, hb⟩
  have e2 : Path.joinE s.data.toList n.data.toList = Path.err (Sep.jn 47 (Path.els s.data.toList ++ [n.data.toList])) := by rw [Path.joinE, if_neg (by omega), if_pos hc]; rfl
  have e1 : Path.joinV s.data.toList n.data.toList = if Path.err (Sep.jn 47 (Path.els s.data.toList ++ [n.data.toList])) = 0 then Sep.jn 47 (Path.els s.data.toList ++ [n.data.toList]) else [] := by rw [Path.joinV, e2]; rfl
  have hlen := joinP_len h hc
  have h8 := (Path.err_ok_iff.1 h).2.1
  rw [e1, e2]
  rw [hc] at hcm
  clear e1 e2 e3 h hc
  generalize Path.els s.data.toList = xs at *
  have hj := fun ao cap w1 (h1 : Strs w1 ao (xs.length + 1) (xs ++ [n.data.toList])) => rpath_any ao (xs.length + 1) cap (xs ++ [n.data.toList]) w1 h1 (by omega) (by omega)
  obtain ⟨P, hP⟩ : ∃ P, Sep.jn 47 (xs ++ [n.data.toList]) = P := ⟨_, rfl⟩
  rw [hP] at hj hlen ⊢
  clear hP
  have hck := fun w => rcheck31_any ⟨P.toArray⟩ w (by rw [mk_size]; omega)
  have e5 : (⟨P.toArray⟩ : ByteArray).data.toList = P := rfl
  rw [e5] at hck
  clear e5
  obtain ⟨E, hE⟩ : ∃ E, Path.err P = E := ⟨_, rfl⟩
  rw [hE] at hck ⊢
  clear hE hlen
  have hfin : E = 0 ∨ (E != 0) = true := by
    rcases Classical.em (E = 0) with e | e
    · exact .inl e
    · exact .inr (bne_iff_ne.2 e)
  have hv : Hid ((if E = 0 then P else []) = if E = 0 then P else []) := Lib.hid rfl
  obtain ⟨V, hV⟩ : ∃ V, (if E = 0 then P else []) = V := ⟨_, rfl⟩
  have HV := Lib.hid hV
  rw [hV]
  clear hV hv
  have HF := Lib.hid hfin
  clear hfin
  go_enter Tryd.func21, Tryd.ntmps21
  go_wp2_with fail
  refine hsp.mono ?_
  rintro e w' ⟨v, rfl, ho, hb⟩
  go_wp2_with fail
  refine (hcm _).mono ?_
  rintro e w2 ⟨rfl, rfl⟩
  have hl : (strsL xs).length ≤ 8 := by rw [strsL_length]; omega
  go_wp2_with (first
    | (at_builtin; refine wpList_appStrs rfl _ _ rfl w.heap.size _ [] rfl (Own.made0 _ _ _ hb.size) w.heap.size _ xs rfl (ho.alloc _) (by simp; omega) (by simp; have := hb.size; omega) ?_; intro v3 w3 ho2 hb4 _; rw [List.nil_append] at ho2)
    | (at_builtin; refine wpList_app1 9 23 _ 16 info_str Tryd.underlying23 rfl rfl _ _ rfl _ _ _ rfl ho2 _ rfl rfl (by omega) (by omega) ((hb.alloc hb.size _).trans hb4).size ?_; intro v' w5 hown3 hb6 _))
  have hb5 := ((hb.alloc hb.size _).trans hb4).trans hb6
  clear hb4 hb6 ho ho2
  rw [strsL_snoc'] at hown3
  obtain ⟨ao, cap, rfl, _⟩ := hown3.form
  rw [strsL_length, List.length_append, List.length_singleton] at hown3 ⊢
  refine (hj _ _ _ hown3.read).mono ?_
  rintro e w4 ⟨rfl, rfl⟩
  have hb7 := hb5
  go_wp2_with fail
  refine (hck _).mono ?_
  rintro e w5 ⟨rfl, hb8⟩
  have hb9 := bchain hb7 hb8
  rcases HF.out with rfl | hne
  · rw [if_pos rfl] at HV
    go_wp2_with fail
    go_ret2
    exact ⟨by rw [← HV.out]; rfl, hb9⟩
  · have h0 : E ≠ 0 := bne_iff_ne.1 hne
    rw [if_neg h0] at HV
    clear h0
    go_wp2_with fail
    go_ret2
    exact ⟨by rw [← HV.out]; rfl, hb9⟩
end Go.Proofs.YtgdmclhkoaadmaaDoor
