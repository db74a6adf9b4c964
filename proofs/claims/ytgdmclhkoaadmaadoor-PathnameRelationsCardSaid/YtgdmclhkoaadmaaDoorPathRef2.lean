/-
  The walks of the reference: Check, Split, path, Parent, Join, Under, Compare.
-/
import Derived.Test.YtgdmclhkoaadmaaDoorPathRef
namespace Go.Proofs.YtgdmclhkoaadmaaDoor
open Go.RowKit

theorem spA_le : ∀ (l cur x : List UInt8), x ∈ Sep.spA 47 cur l → x.length ≤ cur.length + l.length
  | [], cur, x, h => by
    rw [Sep.spA, List.mem_singleton] at h
    rw [h]
    simp
  | c :: l, cur, x, h => by
    rw [Sep.spA] at h
    split at h
    · rcases List.mem_cons.1 h with rfl | h
      · simp
      · have := spA_le l [] x h
        simp at this ⊢
        omega
    · have := spA_le l (cur ++ [c]) x h
      simp at this ⊢
      omega
theorem els_le (s : ByteArray) (x : List UInt8) (h : x ∈ Path.els s.data.toList) : x.length ≤ s.size := by
  unfold Path.els Sep.els at h
  split at h
  · simp at h
  · have := spA_le _ _ _ h
    rw [toList_length] at this
    simpa using this

set_option maxHeartbeats 1000000 in
theorem rcheck31_any (s : ByteArray) (w : World) (hs : s.size ≤ 65536) :
    Calls Tryd.prog 17 #[.string s] w fun e w' => e = .returned (.int .i64 (Path.err s.data.toList)) ∧ Below w.heap.size w w' := by
  have hz := els_size s
  have HE := Lib.hid (path_err s)
  obtain ⟨E, hE⟩ : ∃ E, Path.err s.data.toList = E := ⟨_, rfl⟩
  rw [hE] at HE ⊢
  clear hE
  by_cases h1 : 200 < s.size
  · have hr : E = 6 := by rw [HE.out, if_pos (.inl h1)]
    subst hr
    clear HE
    go_enter Tryd.func17, Tryd.ntmps17
    go_wp2_with fail
    go_ret
    exact ⟨rfl, Below.refl _ _⟩
  have hel := relements_any s w hs
  have hall := fun x h => Nat.le_trans (els_le s x h) hs
  generalize Path.els s.data.toList = xs at hz HE hel hall
  have HA := Lib.hid hall
  clear hall
  by_cases h2 : 8 < xs.length
  · have hr : E = 6 := by rw [HE.out, if_pos (.inr h2)]
    subst hr
    clear HE
    go_enter Tryd.func17, Tryd.ntmps17
    go_wp2_with fail
    refine hel.mono ?_
    rintro e w' ⟨v, rfl, ho, hb⟩
    obtain ⟨ao, cap, rfl, _⟩ := ho.form
    rw [strsL_length] at ho ⊢
    go_wp2_with fail
    go_ret
    exact ⟨rfl, hb⟩
  have HE2 : Hid (E = if xs.all Path.comp then 0 else 7) := by
    show _ = _
    rw [HE.out, if_neg (by omega)]
  clear HE
  go_enter Tryd.func17, Tryd.ntmps17
  go_wp2_with fail
  refine hel.mono ?_
  rintro e w1 ⟨v, rfl, ho, hb⟩
  obtain ⟨ao, cap, rfl, hao⟩ := ho.form
  rw [strsL_length] at ho hao ⊢
  go_wp2_with fail
  go_loop [4] (fun i => ∃ k : Nat, k ≤ xs.length ∧ i = .int .i64 k ∧ Hid ((xs.take k).all Path.comp = true)) (fun i => xs.length - (intOf i).toNat)
  case atStart => exact ⟨0, Nat.zero_le _, rfl, Lib.hid rfl⟩
  case round =>
    obtain ⟨k, hk, rfl, hok⟩ := hrel
    by_cases hlt : k < xs.length
    · obtain ⟨x, hx⟩ : ∃ x, xs[k]? = some x := ⟨_, List.getElem?_eq_getElem hlt⟩
      obtain ⟨g, rfl⟩ := hao (by omega)
      have hcell := ho.cell k _ (strsL_get xs k x hx)
      have HS := Lib.hid (all_take_succ Path.comp xs k x hx)
      have hc := fun w (h : (⟨x.toArray⟩ : ByteArray).size ≤ 65536) => rcomponent_any ⟨x.toArray⟩ w h
      have hxl : (⟨x.toArray⟩ : ByteArray).size ≤ 65536 := by
        rw [mk_size]
        exact HA.out x (List.mem_of_getElem? hx)
      obtain ⟨b, hb1⟩ : ∃ b, Path.comp x = b := ⟨_, rfl⟩
      have HB := Lib.hid hb1
      have e1 : Path.comp (⟨x.toArray⟩ : ByteArray).data.toList = b := hb1
      rw [e1] at hc
      clear e1 hb1 hx
      cases b
      · have hr : E = 7 := by
          rw [HE2.out, all_of_take Path.comp xs (k + 1) (by rw [HS.out, hok.out, HB.out]; rfl)]
          rfl
        subst hr
        go_wp2_with fail
        refine (hc _ hxl).mono ?_
        rintro e w' ⟨rfl, rfl⟩
        go_wp2_with fail
        go_ret
        exact ⟨rfl, hb⟩
      · go_wp2_with fail
        refine (hc _ hxl).mono ?_
        rintro e w' ⟨rfl, rfl⟩
        go_wp2_with fail
        go_round
        case rel => exact ⟨k + 1, by omega, by go_num, by show _ = true; rw [HS.out, hok.out, HB.out]; rfl⟩
        case measure => simp [intOf]; omega
    · obtain rfl : k = xs.length := by omega
      have h := hok.out
      rw [List.take_length] at h
      have hr : E = 0 := by rw [HE2.out, h]; rfl
      subst hr
      clear h
      go_wp2_with fail
      go_ret
      exact ⟨rfl, hb⟩

set_option maxHeartbeats 1000000 in
theorem rsplit31_any (s : ByteArray) (w : World) (hs : s.size ≤ 65536) :
    Calls Tryd.prog 13 #[.string s] w fun e w' => ∃ v, e = .returned (.tuple #[v, .int .i64 (Path.err s.data.toList)]) ∧ Own w' w.heap.size 9 v (strsL (Path.comps s.data.toList)) ∧ Below w.heap.size w w' := by
  have HC : Hid (Path.comps s.data.toList = if Path.err s.data.toList = 0 then Path.els s.data.toList else []) := Lib.hid rfl
  have hck := fun w => rcheck31_any s w hs
  have hel := fun w => relements_any s w hs
  generalize Path.comps s.data.toList = cs at HC ⊢
  generalize Path.err s.data.toList = E at HC hck ⊢
  by_cases h : E = 0
  · subst h
    rw [if_pos rfl] at HC
    go_enter Tryd.func13, Tryd.ntmps13
    go_wp2_with fail
    refine (hck _).mono ?_
    rintro e w' ⟨rfl, hb⟩
    go_wp2_with fail
    refine (hel _).mono ?_
    rintro e w2 ⟨v, rfl, ho, hb2⟩
    go_wp2_with fail
    go_ret2
    exact ⟨v, rfl, by rw [HC.out]; exact ho.more hb.size, bchain hb hb2⟩
  · rw [if_neg h] at HC
    have hne : (E != 0) = true := bne_iff_ne.2 h
    clear h
    go_enter Tryd.func13, Tryd.ntmps13
    go_wp2_with fail
    refine (hck _).mono ?_
    rintro e w' ⟨rfl, hb⟩
    go_wp2_with fail
    go_ret2
    exact ⟨_, rfl, by rw [HC.out]; exact Own.nil _ _ _, hb⟩

theorem jn_take_succ (xs : List (List UInt8)) (k : Nat) (x : List UInt8) (h : xs[k]? = some x) : Sep.jn 47 (xs.take (k + 1)) = if k = 0 then x else Sep.jn 47 (xs.take k) ++ 47 :: x := by
  rw [List.take_add_one, h]
  by_cases e : k = 0
  · subst e
    simp [Sep.jn, Sep.tl]
  · rw [if_neg e]
    refine Sep.jn_snoc _ _ fun e2 => ?_
    have h1 := congrArg List.length e2
    have h2 := (List.getElem?_eq_some_iff.1 h).1
    rw [List.length_take, List.length_nil] at h1
    omega
set_option maxHeartbeats 1000000 in
theorem rpath_any (ao : Option Addr) (n cap : Nat) (xs : List (List UInt8)) (w : World) (hr : Strs w ao n xs) (hlen : (Sep.jn 47 xs).length ≤ 65536) (hn : n ≤ 65536) :
    Calls Tryd.prog 28 #[.slice ao n cap] w fun e w' => e = .returned (.string ⟨(Sep.jn 47 xs).toArray⟩) ∧ w = w' := by
  obtain ⟨rfl, hr⟩ := hr
  have HR := Lib.hid hr
  have HL := Lib.hid hlen
  clear hr hlen
  obtain ⟨R, hR⟩ : ∃ R : ByteArray, (⟨(Sep.jn 47 xs).toArray⟩ : ByteArray) = R := ⟨_, rfl⟩
  have HF : Hid (R.data.toList = Sep.jn 47 xs) := by show _ = _; rw [← hR]
  rw [hR]
  clear hR
  go_enter Tryd.func28, Tryd.ntmps28
  go_wp2_with fail
  go_loop [3, 4] (fun out i => ∃ (k : Nat) (S : ByteArray), k ≤ xs.length ∧ i = .int .i64 k ∧ out = .string S ∧ S.size ≤ 65536 ∧ Hid (S.data.toList = Sep.jn 47 (xs.take k))) (fun _ i => xs.length - (intOf i).toNat)
  case atStart => exact ⟨0, ByteArray.empty, Nat.zero_le _, rfl, rfl, Nat.zero_le _, Lib.hid rfl⟩
  case round =>
    obtain ⟨k, S, hk, rfl, rfl, hz, hS⟩ := hrel
    by_cases hlt : k < xs.length
    · obtain ⟨x, hx⟩ : ∃ x, xs[k]? = some x := ⟨_, List.getElem?_eq_getElem hlt⟩
      obtain ⟨b1, o1, rfl, hc1⟩ := HR.out k x hx
      have hstep := jn_take_succ xs k x hx
      have hle : (Sep.jn 47 (xs.take (k + 1))).length ≤ (Sep.jn 47 xs).length := Sep.jn_length_take xs (k + 1)
      have hle2 := HL.out
      have hx2 : (⟨x.toArray⟩ : ByteArray).size = x.length := mk_size x
      have hx3 : (⟨x.toArray⟩ : ByteArray).data.toList = x := rfl
      generalize (⟨x.toArray⟩ : ByteArray) = X at hc1 hx2 hx3
      by_cases h0 : 0 < k
      · rw [if_neg (by omega)] at hstep
        have hsz : S.size + 1 + X.size ≤ 65536 := by
          have h1 := congrArg List.length hstep
          have h2 := congrArg List.length hS.out
          rw [toList_length] at h2
          rw [List.length_append, List.length_cons] at h1
          omega
        have hZ : (S ++ (⟨#[47]⟩ : ByteArray)).size = S.size + 1 := by rw [ByteArray.size_append]; rfl
        have hZ2 : (S ++ (⟨#[47]⟩ : ByteArray) ++ X).size = S.size + 1 + X.size := by rw [ByteArray.size_append, hZ]
        have HN : Hid ((S ++ (⟨#[47]⟩ : ByteArray) ++ X).data.toList = Sep.jn 47 (xs.take (k + 1))) := by
          show _ = _
          rw [app_data, app_data, hS.out, hstep, hx3, List.append_assoc]
          rfl
        clear hstep hle hle2 hx2 hx3 hx
        go_wp2_with fail
        go_round
        case rel => exact ⟨k + 1, _, by omega, by go_num, rfl, by omega, HN⟩
        case measure => simp [intOf]; omega
      · obtain rfl : k = 0 := by omega
        rw [Nat.add_zero] at hc1
        rw [if_pos rfl] at hstep
        have hS0 : S.data.toList = [] := hS.out
        have hsz0 : S.size = 0 := by rw [← toList_length, hS0]; rfl
        have hsz : X.size ≤ 65536 := by
          have h1 := congrArg List.length hstep
          omega
        have hZ2 : (S ++ X).size = X.size := by rw [ByteArray.size_append, hsz0, Nat.zero_add]
        have HN : Hid ((S ++ X).data.toList = Sep.jn 47 (xs.take (0 + 1))) := by
          show _ = _
          rw [app_data, hS0, hstep, hx3, List.nil_append]
        clear hstep hle hle2 hx2 hx3 hx hS0 hsz0
        go_wp2_with fail
        go_round
        case rel => exact ⟨0 + 1, _, by omega, by go_num, rfl, by omega, HN⟩
        case measure => simp [intOf]; omega
    · obtain rfl : k = xs.length := by omega
      have h := hS.out
      rw [List.take_length, ← HF.out] at h
      have h2 := of_toList h
      subst h2
      clear h
      go_wp2_with fail
      go_ret
      exact ⟨rfl, rfl⟩

set_option maxHeartbeats 1000000 in
theorem rparent_any (s : ByteArray) (w : World) (hs : s.size ≤ 65536) :
    Calls Tryd.prog 15 #[.string s] w fun e w' => e = .returned (.tuple #[.string ⟨(Path.parentV s.data.toList).toArray⟩, .int .i64 (Path.parentE s.data.toList)]) ∧ Below w.heap.size w w' := by
  have hsp := rsplit31_any s w hs
  by_cases h : Path.err s.data.toList = 0
  rotate_left
  · have e1 : Path.parentV s.data.toList = [] := by rw [Path.parentV, if_pos h]
    have e2 : Path.parentE s.data.toList = Path.err s.data.toList := by rw [Path.parentE, if_pos h]
    rw [e1, e2]
    clear e1 e2
    generalize Path.err s.data.toList = E at hsp h ⊢
    have hne : (E != 0) = true := bne_iff_ne.2 h
    clear h
    go_enter Tryd.func15, Tryd.ntmps15
    go_wp2_with fail
    refine hsp.mono ?_
    rintro e w' ⟨v, rfl, ho, hb⟩
    go_wp2_with fail
    go_ret2
    exact ⟨rfl, hb⟩
  · have e1 : Path.parentV s.data.toList = Path.jn ((Path.els s.data.toList).take ((Path.els s.data.toList).length - 1)) := by rw [Path.parentV, if_neg (by omega), List.dropLast_eq_take]
    have e2 : Path.parentE s.data.toList = if s.data.toList = [] then 1 else 0 := by rw [Path.parentE, if_neg (by omega)]
    have e3 : Path.comps s.data.toList = Path.els s.data.toList := by rw [Path.comps, if_pos h]
    have hnil := Sep.els_eq_nil (q := 47) (l := s.data.toList)
    have hz := els_size s
    have hsm := jn_small h ((Path.els s.data.toList).length - 1)
    rw [h, e3] at hsp
    rw [e1, e2]
    clear e1 e2 e3 h
    by_cases hn : s.data.toList = []
    · have e4 : Path.els s.data.toList = [] := hnil.2 hn
      rw [e4] at hsp ⊢
      rw [if_pos hn]
      clear hnil hn e4 hz hsm
      go_enter Tryd.func15, Tryd.ntmps15
      go_wp2_with fail
      refine hsp.mono ?_
      rintro e w' ⟨v, rfl, ho, hb⟩
      obtain ⟨ao, cap, rfl, _⟩ := ho.form
      go_wp2_with fail
      go_ret2
      exact ⟨rfl, hb⟩
    · rw [if_neg hn]
      have hne : Path.els s.data.toList ≠ [] := fun e => hn (hnil.1 e)
      clear hnil hn
      generalize Path.els s.data.toList = xs at *
      have hlen : 0 < xs.length := List.length_pos_iff.2 hne
      clear hne
      go_enter Tryd.func15, Tryd.ntmps15
      go_wp2_with fail
      refine hsp.mono ?_
      rintro e w' ⟨v, rfl, ho, hb⟩
      obtain ⟨ao, cap, rfl, hao⟩ := ho.form
      obtain ⟨g, rfl⟩ := hao (by rw [strsL_length]; exact hlen)
      rw [strsL_length] at ho ⊢
      have hcap := ho.cap
      have hj := fun w1 (h1 : Strs w1 (some ⟨g, 0, none⟩) (xs.length - 1) (xs.take (xs.length - 1))) => rpath_any (some ⟨g, 0, none⟩) (xs.length - 1) cap (xs.take (xs.length - 1)) w1 h1 (Nat.le_trans hsm (by decide)) (by omega)
      have hc1 : ((xs.length : Int) - 1) = ((xs.length - 1 : Nat) : Int) := by omega
      go_wp2_with fail
      refine (hj _ (ho.read.take _ (by omega))).mono ?_
      rintro e w2 ⟨rfl, rfl⟩
      go_wp2_with fail
      go_ret2
      exact ⟨rfl, hb⟩
end Go.Proofs.YtgdmclhkoaadmaaDoor
