/-
  strings.Split at one byte, and strings of bytes as cells.
-/
import Derived.Test.YtbhmdcdhklgomaaGreatDoorProg
import Derived.Test.YtbhmdcdhklgomaaGreatDoorM09
import Derived.Test.YtbhmdcdhklgomaaGreatDoorM01
import Derived.Shelf.GgClosure.StringsIndexFuncTop
import Derived.Laws.RangeString
import Derived.Laws.RangeAny
import Derived.WalkKit
import Derived.WalkSpells
import Derived.WalkLawsBesides
import Derived.Lib.Hide
import Derived.Lib.Builder
import Derived.Lib.OthersKept
import Derived.Lib.AppendStr
import Derived.Laws.Externs
import Derived.Laws.IdiomCopy
import Derived.Lib.Join
namespace Go.Proofs.YtbhmdcdhklgomaaGreatDoor
open Go.RowKit

def strsL (l : List (List UInt8)) : List Value := l.map fun x => Value.string ⟨x.toArray⟩
theorem strsL_length (l : List (List UInt8)) : (strsL l).length = l.length := by simp [strsL]
theorem strsL_of (l : List ByteArray) : strsL (l.map (·.data.toList)) = l.map Value.string := by
  unfold strsL
  rw [List.map_map]
  exact List.map_congr_left fun x _ => congrArg Value.string (mk_toList x)
theorem strsL_get (l : List (List UInt8)) (k : Nat) (x : List UInt8) (h : l[k]? = some x) : (strsL l)[k]? = some (.string ⟨x.toArray⟩) := by simp [strsL, h]
theorem indexByte_index (c : UInt8) : ∀ l : List UInt8, Lib.indexByte l c = Lib.index l [c]
  | [] => rfl
  | b :: l => by
    have ih := indexByte_index c l
    by_cases h : b = c
    · subst h
      simp [Lib.indexByte, Lib.index, List.isPrefixOf]
    · simp [Lib.indexByte, Lib.index, List.isPrefixOf, Ne.symm h, h, ih]
theorem index_one (s : ByteArray) (c : UInt8) (w : World) :
    Calls Tryz.prog 198 #[.string s, .string ⟨#[c]⟩] w fun e w' => e = .returned (.int .i64 (Lib.indexB s ⟨#[c]⟩)) ∧ w' = w := by
  refine (Tryz.strings_Index_one s c w).mono fun e w' ⟨he, hw⟩ => ⟨?_, hw⟩
  rw [he, indexByte_index]
theorem count_one (s : ByteArray) (c : UInt8) (w : World) :
    Calls Tryz.prog 197 #[.string s, .string ⟨#[c]⟩] w fun e w' => e = .returned (.int .i64 (Lib.countB s ⟨#[c]⟩)) ∧ w' = w := by
  refine (Tryz.strings_Count_one s c w).mono fun e w' ⟨he, hw⟩ => ⟨?_, hw⟩
  rw [he]
  show _ = Ending.returned (Value.int .i64 ((Lib.count s.data.toList [c] : Nat) : Int))
  rw [Lib.count_one]
  rfl
/-- strings.Split at one byte. -/
theorem split_any (s : ByteArray) (c : UInt8) (w : World) (hs : s.size < 4294967281) :
    Calls Tryz.prog 140 #[.string s, .string ⟨#[c]⟩] w fun e w' => ∃ v, e = .returned v ∧ Own w' w.heap.size 9 v (strsL (Sep.spA c [] s.data.toList)) ∧ Below w.heap.size w w' := by
  have hle := Lib.countB_le ⟨#[c]⟩ (Nat.le_refl _) s.size s (Nat.le_refl _)
  have hlen := Lib.splitB_all ⟨#[c]⟩ (Nat.le_refl _) 0 _ s rfl
  have cg : Calls Tryz.prog 171 #[.string s, .string ⟨#[c]⟩, .int .i64 ((0 : Nat) : Int), .int .i64 (-1)] w fun e w' =>
      e = .returned (.slice (some ⟨w.heap.size, 0, none⟩) (Lib.splitB ⟨#[c]⟩ 0 (Lib.countB s ⟨#[c]⟩) s).length (Lib.countB s ⟨#[c]⟩ + 1)) ∧ w' = w.alloc (.cells (Lib.cellsOf (Lib.splitB ⟨#[c]⟩ 0 (Lib.countB s ⟨#[c]⟩) s) (Lib.countB s ⟨#[c]⟩ + 1)) 9) :=
    Any.strings_genSplit_core Tryz.lays221 (by kernel_rfl) s ⟨#[c]⟩ 0 (-1) (Lib.countB s ⟨#[c]⟩ + 1) w hs (Nat.le_refl _) (Nat.zero_le _)
      (fun x k _ => index_one x c _) (count_one s c w) (by decide) (by decide) (by rw [if_pos (by decide)]; omega)
  have hel : (Lib.splitB ⟨#[c]⟩ 0 (Lib.countB s ⟨#[c]⟩) s).map Value.string = strsL (Sep.spA c [] s.data.toList) := by
    rw [← strsL_of, Lib.splitB_data]
    exact congrArg strsL (Sep.split_spA _ _ rfl)
  have e2 : Lib.cellsOf (Lib.splitB ⟨#[c]⟩ 0 (Lib.countB s ⟨#[c]⟩) s) (Lib.countB s ⟨#[c]⟩ + 1) = (strsL (Sep.spA c [] s.data.toList)).toArray := by
    rw [← hlen, Lib.cellsOf_full, hel]
  have hl2 : (strsL (Sep.spA c [] s.data.toList)).length = Lib.countB s ⟨#[c]⟩ + 1 := by rw [← hel, List.length_map, hlen]
  rw [hlen, e2] at cg
  generalize hn : Lib.countB s ⟨#[c]⟩ + 1 = n at cg hl2
  clear hel e2 hlen
  go_enter Tryz.func140, Tryz.ntmps140
  go_wp2_with (go_at_call 171; refine cg.mono ?_; rintro e w' ⟨rfl, rfl⟩)
  go_ret
  refine ⟨_, rfl, ?_, (Below.refl _ _).alloc (Nat.le_refl _) _⟩
  have h := Own.lit w w.heap.size 9 (strsL (Sep.spA c [] s.data.toList)).toArray n (Nat.le_refl _) (by unfold maxLen; omega) (by simpa using hl2)
  simpa using h
end Go.Proofs.YtbhmdcdhklgomaaGreatDoor

/-
  strings.ContainsFunc with a predicate on ASCII bytes, and strings.Split at one byte: what they give.
-/
namespace Go.Proofs.YtbhmdcdhklgomaaGreatDoor.Path
open Go Go.RowKit

def okN (r : Nat) : Bool := (decide (97 ≤ r) && decide (r ≤ 122)) || (decide (48 ≤ r) && decide (r ≤ 57)) || r == 46 || r == 95 || r == 45
theorem okN_byte (c : UInt8) : okByte c = okN c.toNat := by
  have e : ∀ k : UInt8, (c == k) = (c.toNat == k.toNat) := fun k => by rw [Bool.eq_iff_iff, beq_iff_eq, beq_iff_eq, UInt8.toNat_inj]
  unfold okByte okN
  rw [e 46, e 95, e 45]
  rfl
theorem okN_high {r : Nat} (h : 128 ≤ r) : okN r = false := by
  simp only [okN, Bool.or_eq_false_iff, Bool.and_eq_false_iff, decide_eq_false_iff_not, beq_eq_false_iff_ne]
  omega
theorem scan_from (s : ByteArray) : ∀ (f pos : Nat), s.size ≤ pos + f → decide (0 ≤ Lib.idxFuncFrom (fun r => !okN r) true s f pos) = !(s.data.toList.drop pos).all okByte
  | 0, pos, h => by
    have : s.data.toList.drop pos = [] := by
      rw [List.drop_eq_nil_iff, Array.length_toList]
      exact h
    rw [this]
    rfl
  | f + 1, pos, h => by
    by_cases hp : pos < s.size
    · have hd : s.data.toList.drop pos = s[pos] :: s.data.toList.drop (pos + 1) := by
        rw [List.drop_eq_getElem_cons (by rw [Array.length_toList]; exact hp)]
        rfl
      rw [Lib.idxFuncFrom, if_pos hp, hd, List.all_cons]
      by_cases ha : (s[pos]'hp).toNat < 128
      · rw [decode_ascii s pos hp ha, okN_byte]
        cases hk : okN (s[pos]'hp).toNat
        · simp
        · simp only [Bool.not_true, Bool.false_eq_true, if_false, Bool.true_and]
          exact scan_from s f (pos + 1) (by omega)
      · obtain ⟨h1, h2⟩ := decode_high s pos hp (by omega)
        rw [okN_high h1, okN_byte, okN_high (by omega)]
        simp
    · have : s.data.toList.drop pos = [] := by
        rw [List.drop_eq_nil_iff, Array.length_toList]
        exact Nat.le_of_not_lt hp
      rw [Lib.idxFuncFrom, if_neg hp, this]
      rfl
theorem scan (s : ByteArray) : decide (0 ≤ Lib.idxFunc (fun r => !okN r) true s) = !s.data.toList.all okByte := by
  have h := scan_from s s.size 0 (by omega)
  rwa [List.drop_zero] at h
end Go.Proofs.YtbhmdcdhklgomaaGreatDoor.Path

/-
  The walks of allowed, component, and of the program's test of a list of components.
-/
namespace Go.Proofs.YtbhmdcdhklgomaaGreatDoor
open Go.RowKit

theorem allowed_any (r : Nat) (w : World) :
    Calls Tryz.prog 170 #[.int .i32 r] w fun e w' => e = .returned (.bool (Path.okN r)) ∧ w' = w := by
  have e1 : ((97 : Int) ≤ r) = (97 ≤ r) := by simp; omega
  have e2 : ((r : Int) ≤ 122) = (r ≤ 122) := by simp; omega
  have e3 : ((48 : Int) ≤ r) = (48 ≤ r) := by simp; omega
  have e4 : ((r : Int) ≤ 57) = (r ≤ 57) := by simp; omega
  have e5 : ((r : Int) == 46) = (r == 46) := int_beq r 46
  have e6 : ((r : Int) == 95) = (r == 95) := int_beq r 95
  have e7 : ((r : Int) == 45) = (r == 45) := int_beq r 45
  obtain ⟨b, hb⟩ : ∃ b, Path.okN r = b := ⟨_, rfl⟩
  have HB := Lib.hid hb
  rw [hb]
  clear hb
  go_enter Tryz.func170, Tryz.ntmps170
  go_wp2_with fail
  all_goals
    go_ret
    refine ⟨?_, rfl⟩
    rw [← HB.out]
    unfold Path.okN
    simp [*] <;> omega
theorem notAllowed (w : World) : PredAt Tryz.prog 169 #[] encR (fun r => !Path.okN r) w := fun W r _ => by
  unfold FnGives
  go_enter Tryz.func169, Tryz.ntmps169
  go_wp2_with (go_at_call 170; refine (allowed_any r _).mono ?_; rintro e w' ⟨rfl, rfl⟩)
  go_ret
  exact ⟨rfl, 0, rfl⟩
theorem containsFunc_any (s : ByteArray) (w : World) :
    Calls Tryz.prog 168 #[.string s, .func (.func 169) #[] #[]] w fun e w' => e = .returned (.bool (!s.data.toList.all Path.okByte)) ∧ Below w.heap.size w w' := by
  rw [← Path.scan]
  exact Tryz.strings_ContainsFunc 169 #[] (enters_of Tryz.func169 (by kernel_rfl) rfl) _ s w (notAllowed w)

theorem comp_parts (s : ByteArray) : Path.comp s.data.toList = (decide (1 ≤ s.size) && decide (s.size ≤ 32) && !(s.toList == [46]) && !(s.toList == [46, 46]) && s.data.toList.all Path.okByte) := by
  rw [Path.comp, toList_length, Lib.toList_data]
set_option maxHeartbeats 1000000 in
theorem component_any (s : ByteArray) (w : World) :
    Calls Tryz.prog 139 #[.string s] w fun e w' => e = .returned (.bool (Path.comp s.data.toList)) ∧ Below w.heap.size w w' := by
  obtain ⟨b, hb⟩ : ∃ b, Path.comp s.data.toList = b := ⟨_, rfl⟩
  have HB := Lib.hid hb
  rw [hb]
  clear hb
  have hc := fun w => containsFunc_any s w
  obtain ⟨a, ha⟩ : ∃ a, s.data.toList.all Path.okByte = a := ⟨_, rfl⟩
  have HA := Lib.hid ha
  rw [ha] at hc
  clear ha
  obtain ⟨d1, h1⟩ : ∃ d, (s.toList == [46]) = d := ⟨_, rfl⟩
  obtain ⟨d2, h2⟩ : ∃ d, (s.toList == [46, 46]) = d := ⟨_, rfl⟩
  have H1 := Lib.hid h1
  have H2 := Lib.hid h2
  have e1 : ((1 : Int) ≤ s.size) = (1 ≤ s.size) := by simp; omega
  have e2 : ((s.size : Int) ≤ 32) = (s.size ≤ 32) := by simp; omega
  go_enter Tryz.func139, Tryz.ntmps139
  go_wp2_with (go_at_call 168; refine (hc _).mono ?_; rintro e w' ⟨rfl, hb⟩)
  all_goals
    go_ret
    refine ⟨?_, by first | assumption | exact Below.refl _ _⟩
    rw [← HB.out, comp_parts, HA.out, H1.out, H2.out]
    simp [*]
end Go.Proofs.YtbhmdcdhklgomaaGreatDoor

/-
  The walks of elements, of the program's test of a list, of Check and Split.
-/
namespace Go.Proofs.YtbhmdcdhklgomaaGreatDoor
open Go.RowKit

theorem isEmpty_iff (s : ByteArray) : s.toList.isEmpty = decide (s.data.toList = []) := by
  rw [Lib.toList_data, Bool.eq_iff_iff, List.isEmpty_iff, decide_eq_true_eq]
theorem elements_any (s : ByteArray) (w : World) (hs : s.size < 4294967281) :
    Calls Tryz.prog 111 #[.string s] w fun e w' => ∃ v, e = .returned v ∧ Own w' w.heap.size 9 v (strsL (Path.els s.data.toList)) ∧ Below w.heap.size w w' := by
  by_cases h : s.data.toList = []
  · obtain rfl : s = ByteArray.empty := of_toList h
    have e : Path.els (ByteArray.empty).data.toList = [] := rfl
    rw [e]
    go_enter Tryz.func111, Tryz.ntmps111
    go_wp2_with fail
    go_ret
    exact ⟨_, rfl, Own.nil _ _ _, Below.refl _ _⟩
  · have e : Path.els s.data.toList = Sep.spA 47 [] s.data.toList := Sep.els_ne h
    have h2 : s.toList.isEmpty = false := by rw [isEmpty_iff, decide_eq_false_iff_not]; exact h
    have h3 : ¬ s.toList = [] := by rw [Lib.toList_data]; exact h
    rw [e]
    clear e h
    go_enter Tryz.func111, Tryz.ntmps111
    go_wp2_with (go_at_call 140; refine (split_any s 47 _ hs).mono ?_; rintro e w' ⟨v, rfl, ho, hb⟩)
    go_ret
    exact ⟨v, rfl, ho, hb⟩

set_option maxHeartbeats 1000000 in
theorem checkClosure_any (s : ByteArray) (w : World) :
    Calls Tryz.prog 138 #[.string s] w fun e w' => e = .returned (.bool (!Path.comp s.data.toList)) ∧ Below w.heap.size w w' := by
  go_enter Tryz.func138, Tryz.ntmps138
  go_wp2_with (go_at_call 139; refine (component_any s _).mono ?_; rintro e w' ⟨rfl, hb⟩)
  go_ret
  exact ⟨rfl, hb⟩

theorem all_take_succ (p : List UInt8 → Bool) (xs : List (List UInt8)) (k : Nat) (x : List UInt8) (h : xs[k]? = some x) : (xs.take (k + 1)).all p = ((xs.take k).all p && p x) := by
  rw [List.take_add_one, h]
  simp
theorem all_of_take (p : List UInt8 → Bool) (xs : List (List UInt8)) (k : Nat) (h : (xs.take k).all p = false) : xs.all p = false := by
  rw [← List.take_append_drop k xs, List.all_append, h]
  rfl

set_option maxHeartbeats 1000000 in
theorem indexFunc_any (B : Nat) (ao : Option Addr) (n cap : Nat) (xs : List (List UInt8)) (w : World) (hown : Own w B 9 (.slice ao n cap) (strsL xs)) (hn : n ≤ 9223372036854775807) :
    Calls Tryz.prog 167 #[.slice ao n cap, .func (.func 138) #[] #[]] w fun e w' => ∃ k : Int, e = .returned (.int .i64 k) ∧ decide (0 ≤ k) = !xs.all Path.comp ∧ Below w.heap.size w w' := by
  obtain rfl : n = xs.length := by rw [hown.len, strsL_length]
  go_enter Tryz.func167, Tryz.ntmps167
  go_wp2_with fail
  go_loopw [8] (fun i wr => ∃ k : Nat, k ≤ xs.length ∧ i = .int .i64 k ∧ Hid ((xs.take k).all Path.comp = true) ∧ Below w.heap.size w wr) (fun i _ => xs.length - (intOf i).toNat)
  case atStart => exact ⟨0, Nat.zero_le _, rfl, rfl, Below.refl _ _⟩
  case round =>
    obtain ⟨k, hk, rfl, hok, hb⟩ := hrel
    by_cases hlt : k < xs.length
    · obtain ⟨x, hx⟩ : ∃ x, xs[k]? = some x := ⟨_, List.getElem?_eq_getElem (by omega)⟩
      obtain ⟨g, rfl⟩ := hown.addr (by rw [strsL_length]; omega)
      have hcell := (hown.below hb (Nat.le_refl _)).cell k _ (strsL_get xs k x hx)
      have HS := Lib.hid (all_take_succ Path.comp xs k x hx)
      have hc := fun w => checkClosure_any ⟨x.toArray⟩ w
      obtain ⟨b, hb1⟩ : ∃ b, Path.comp x = b := ⟨_, rfl⟩
      have HB := Lib.hid hb1
      have e1 : Path.comp (⟨x.toArray⟩ : ByteArray).data.toList = b := hb1
      rw [e1] at hc
      clear e1 hb1 hx
      cases b
      · go_wp2_with (go_at_call 138; refine (hc _).mono ?_; rintro e w' ⟨rfl, hb2⟩)
        go_ret
        refine ⟨k, rfl, ?_, bchain hb hb2⟩
        rw [all_of_take Path.comp xs (k + 1) (by rw [HS.out, hok.out, HB.out]; rfl)]
        simp
      · go_wp2_with fail
        refine (hc _).mono ?_
        rintro e w' ⟨rfl, hb2⟩
        go_wp2_with fail
        go_roundw
        case rel => exact ⟨k + 1, by omega, by go_num, by show _ = true; rw [HS.out, hok.out, HB.out]; rfl, bchain hb hb2⟩
        case measure => simp [intOf]; omega
    · obtain rfl : k = xs.length := by omega
      have h := hok.out
      rw [List.take_length] at h
      have H := Lib.hid h
      clear h
      go_wp2_with fail
      go_ret
      exact ⟨-1, rfl, by rw [H.out]; rfl, hb⟩

set_option maxHeartbeats 1000000 in
theorem containsBad_any (B : Nat) (ao : Option Addr) (n cap : Nat) (xs : List (List UInt8)) (w : World) (hown : Own w B 9 (.slice ao n cap) (strsL xs)) (hn : n ≤ 9223372036854775807) :
    Calls Tryz.prog 137 #[.slice ao n cap, .func (.func 138) #[] #[]] w fun e w' => e = .returned (.bool (!xs.all Path.comp)) ∧ Below w.heap.size w w' := by
  obtain ⟨b, hb⟩ : ∃ b, (!xs.all Path.comp) = b := ⟨_, rfl⟩
  have hc := indexFunc_any B ao n cap xs w hown hn
  rw [hb] at hc ⊢
  clear hb
  go_enter Tryz.func137, Tryz.ntmps137
  go_wp2_with (go_at_call 167; refine hc.mono ?_; rintro e w' ⟨k, rfl, hk, hb⟩)
  go_ret
  exact ⟨by simp_all, hb⟩

theorem els_size (s : ByteArray) : (Path.els s.data.toList).length ≤ s.size + 1 := by
  have := Sep.els_length_le (q := 47) s.data.toList
  rwa [toList_length] at this
theorem path_err (s : ByteArray) : Path.err s.data.toList = if 200 < s.size ∨ 8 < (Path.els s.data.toList).length then 6 else if (Path.els s.data.toList).all Path.comp then 0 else 7 := by
  rw [Path.err, toList_length]

set_option maxHeartbeats 1000000 in
theorem pcheck_any (s : ByteArray) (w : World) (hs : s.size < 4294967281) :
    Calls Tryz.prog 110 #[.string s] w fun e w' => e = .returned (.int .i64 (Path.err s.data.toList)) ∧ Below w.heap.size w w' := by
  have hz := els_size s
  have HE := Lib.hid (path_err s)
  obtain ⟨E, hE⟩ : ∃ E, Path.err s.data.toList = E := ⟨_, rfl⟩
  rw [hE] at HE ⊢
  clear hE
  have hel := elements_any s w hs
  generalize Path.els s.data.toList = xs at hz HE hel
  obtain ⟨b, hb⟩ : ∃ b, xs.all Path.comp = b := ⟨_, rfl⟩
  have HB := Lib.hid hb
  clear hb
  go_enter Tryz.func110, Tryz.ntmps110
  go_wp2_with fail
  refine hel.mono ?_
  rintro e w' ⟨v, rfl, ho, hb⟩
  obtain ⟨ao, cap, rfl, _⟩ := ho.form
  rw [strsL_length] at ho ⊢
  have hcb := fun w1 (h1 : Own w1 w.heap.size 9 (.slice ao xs.length cap) (strsL xs)) => containsBad_any w.heap.size ao xs.length cap xs w1 h1 (by omega)
  rw [HB.out] at hcb
  by_cases h1 : 200 < s.size ∨ 8 < xs.length
  · rw [if_pos h1] at HE
    rcases Nat.lt_or_ge 200 s.size with h2 | h2
    · go_wp2_with fail
      go_ret
      exact ⟨ret_int (HE.out).symm, hb⟩
    · have h3 : 8 < xs.length := by omega
      go_wp2_with fail
      go_ret
      exact ⟨ret_int (HE.out).symm, hb⟩
  · rw [if_neg h1, HB.out] at HE
    have h2 : ¬ 200 < s.size := by omega
    have h3 : ¬ 8 < xs.length := by omega
    clear h1
    cases b
    all_goals
      go_wp2_with fail
      refine (hcb _ ho).mono ?_
      rintro e w2 ⟨rfl, hb2⟩
      go_wp2_with fail
      go_ret
      exact ⟨ret_int (HE.out).symm, bchain hb hb2⟩
end Go.Proofs.YtbhmdcdhklgomaaGreatDoor

/-
  A strings.Builder that the call itself has made: copyCheck, WriteByte, WriteString, over this translation (whose copyCheck holds no panic). After the library's own texts on Builder.
-/
namespace Go.Proofs.YtbhmdcdhklgomaaGreatDoor
open Go.RowKit

theorem infoByte : (Tryz.prog.info? 5).map (fun i => (i.zero, i.size, i.bytes)) = some (some (.int .u8 0), 1, 1) := by kernel_rfl
theorem sizeBuilder : (Tryz.prog.info? 102).map (·.size) = some 2 := by kernel_rfl
theorem liesBuilder : liesAt Tryz.prog Tryz.prog.depth 102 (2 / Tryz.prog.cellsOf 102) 0 102 1 = true := by kernel_rfl

/-- The builder in block b holds the cells bs. -/
abbrev Bld (B b : Nat) (bs : List Value) (w : World) : Prop := Lib.IsBuilder 102 5 B b bs w
abbrev Kept (b : Nat) (w w' : World) : Prop := Lib.OthersKept 5 (some b) w w'

set_option maxHeartbeats 1000000 in
set_option maxRecDepth 100000 in
theorem copyCheck_used (b : Nat) (w : World) (h0 : w.cell? ⟨b, 0, none⟩ = some (.pointer (some ⟨b, 0, none⟩))) :
    Calls Tryz.prog 84 #[.pointer (some ⟨b, 0, none⟩)] w fun e w' => e = .returned (.tuple #[]) ∧ w' = w := by
  obtain ⟨j, hj, _⟩ := Option.map_eq_some_iff.1 sizeBuilder
  go_enter Tryz.func84, Tryz.ntmps84
  go_wp2
  rw [Lib.run_neq_ptr_same w _ Tryz.underlying100 hj]
  go_wp2
  go_end0
  exact ⟨rfl, rfl⟩

set_option maxHeartbeats 1000000 in
set_option maxRecDepth 100000 in
theorem copyCheck_fresh (b : Nat) (w : World) (h0 : w.cell? ⟨b, 0, none⟩ = some (.pointer none)) (hsh : w.shape? b = some (102, 2)) (hfz : w.frozen? ⟨b, 0, none⟩ = false) :
    Calls Tryz.prog 84 #[.pointer (some ⟨b, 0, none⟩)] w fun e w' => e = .returned (.tuple #[]) ∧ w' = w.setCell ⟨b, 0, none⟩ (.pointer (some ⟨b, 0, none⟩)) := by
  obtain ⟨j, hj, hjs⟩ := Option.map_eq_some_iff.1 sizeBuilder
  go_enter Tryz.func84, Tryz.ntmps84
  go_wp2
  rw [Lib.run_to_unsafe w ⟨b, 0, none⟩ Tryz.underlying100 Tryz.underlying187 hj (by rw [hjs]; decide) hsh (Nat.zero_lt_succ 1)]
  simp only [Result.andThen]
  rw [Oper.upon_value]
  go_wp2
  rw [run_callFunc_extern Tryz.func118 (by kernel_rfl) (by kernel_rfl) (by kernel_rfl) (e := Extern.AbiNoEscape.same) (by kernel_rfl)]
  rw [Lib.run_noEscape]
  simp only [Result.andThen]
  rw [Oper.upon_value]
  go_wp2
  rw [Lib.run_from_unsafe w ⟨b, 0, none⟩ Tryz.underlying187 Tryz.underlying100 hj hsh liesBuilder]
  simp only [Result.andThen]
  rw [Oper.upon_value]
  go_wp2
  go_end0
  exact ⟨rfl, rfl⟩

theorem copyCheck_any (B b : Nat) (bs : List Value) (w : World) (h : Bld B b bs w) :
    Calls Tryz.prog 84 #[.pointer (some ⟨b, 0, none⟩)] w fun e w' => e = .returned (.tuple #[]) ∧ (Lib.BuilderAt 102 5 B b (.pointer (some ⟨b, 0, none⟩)) bs w' ∧ Below B w w' ∧ Kept b w w') := by
  rcases h with h | h
  · refine (copyCheck_fresh b w h.cell0 h.shape h.frozen0).mono ?_
    rintro e w' ⟨rfl, rfl⟩
    exact ⟨rfl, h.used _, (Below.refl B w).setCell (p := ⟨b, 0, none⟩) h.1 _, (Lib.OthersKept.refl 5 (some b) w).setCell ⟨b, 0, none⟩ rfl _⟩
  · refine (copyCheck_used b w h.cell0).mono ?_
    rintro e w' ⟨rfl, rfl⟩
    exact ⟨rfl, h, Below.refl B _, Lib.OthersKept.refl _ _ _⟩


set_option maxHeartbeats 2000000 in
set_option maxRecDepth 100000 in
theorem writeString_any (B b : Nat) (bs : List Value) (s : ByteArray) (w : World) (h : Bld B b bs w) (hlen : bs.length + s.size ≤ 140737488355328) (hBw : B ≤ w.heap.size) :
    Calls Tryz.prog 43 #[.pointer (some ⟨b, 0, none⟩), .string s] w fun e w' => e = .returned (.tuple #[.int .i64 s.size, .nilIface]) ∧ (Bld B b (bs ++ Lib.strCells s) w' ∧ Below B w w' ∧ Kept b w w') := by
  obtain ⟨i0, hi, hz0, hz1, hz2⟩ := info_parts infoByte
  go_enter Tryz.func43, Tryz.ntmps43
  go_wp2_with (go_at_call 84; refine (copyCheck_any B b bs _ h).mono ?_)
  rintro e w1 ⟨rfl, h1, hb1, hk1⟩
  obtain ⟨hB, v, hbk, hown, hne⟩ := h1
  have c0 : w1.cell? ⟨b, 0, none⟩ = some (.pointer (some ⟨b, 0, none⟩)) := by rw [Lib.cell_of_heap hbk]; rfl
  have c1 : w1.cell? ⟨b, 1, none⟩ = some v := by rw [Lib.cell_of_heap hbk]; rfl
  go_wp2_with (at_builtin; refine Lib.wpList_append_own_string _ rfl _ _ 77 9 rfl B 5 i0 Tryz.underlying77 Tryz.underlying9 hi hz0 hz1 hz2 _ _ _ rfl hown s rfl ?c3 ?c4 ?c5 ?_)
  case c3 => unfold maxLen; omega
  case c4 => omega
  case c5 => have := hb1.size; omega
  intro v' w2 hown' hgrow _
  have hlt : b < w1.heap.size := by
    rcases Nat.lt_or_ge b w1.heap.size with h' | h'
    · exact h'
    · simp [Array.getElem?_eq_none h'] at hbk
  have hb2 : w2.heap[b]? = some (.cells #[.pointer (some ⟨b, 0, none⟩), v] 102 (0, 0)) := by
    rw [hgrow.block b hlt (fun e => hne e.symm)]
    exact hbk
  have d0 : w2.cell? ⟨b, 0, none⟩ = some (.pointer (some ⟨b, 0, none⟩)) := by rw [Lib.cell_of_heap hb2]; rfl
  have d1 : w2.cell? ⟨b, 1, none⟩ = some v := by rw [Lib.cell_of_heap hb2]; rfl
  have f1 : w2.frozen? ⟨b, 1, none⟩ = false := Lib.frozen_of_heap hb2 1
  obtain ⟨ao, n', cap, rfl⟩ : ∃ ao n' cap, v' = .slice ao n' cap := by
    rcases hown'.2 with ⟨hv, _⟩ | ⟨g, cap, cur, hv, _⟩
    · exact ⟨_, _, _, hv⟩
    · exact ⟨_, _, _, hv⟩
  go_wp2
  go_ret2
  refine ⟨rfl, ?_, ?_, ?_⟩
  · exact .inr (Lib.BuilderAt.put (T := 102) (e := 5) hB hb2 (bs' := bs ++ Lib.strCells s) (by simpa [Lib.strCells_length] using hown') (by decide))
  · exact (hb1.grown hgrow (by have := hb1.size; omega) (fun k hk => (hown.lt k hk).1)).setCell (p := ⟨b, 1, none⟩) hB _
  · refine (Lib.OthersKept.grown hk1 hgrow fun g hg => ?_).setCell ⟨b, 1, none⟩ rfl _
    rcases hown.2 with ⟨rfl, _⟩ | ⟨g', cap', cur, rfl, _, hh, _⟩
    · simp [Value.ownBlock] at hg
    · simp [Value.ownBlock] at hg
      subst hg
      exact ⟨cur, _, hh⟩
end Go.Proofs.YtbhmdcdhklgomaaGreatDoor

/-
  strings.Builder's Grow at a builder that has not been written, and strings.Join. After the library's own texts on both.
-/
namespace Go.Proofs.YtbhmdcdhklgomaaGreatDoor
open Go.RowKit

set_option maxHeartbeats 2000000 in
set_option maxRecDepth 100000 in
theorem grow_fresh (B b n : Nat) (w : World) (hB : B ≤ b) (hbk : w.heap[b]? = some (.cells #[.pointer (some ⟨b, 0, none⟩), .slice none 0 0] 102 (0, 0))) (hBw : B ≤ w.heap.size) (hn : n ≤ 281474976710656) :
    Calls Tryz.prog 117 #[.pointer (some ⟨b, 0, none⟩), .int .i64 n] w fun e w' => e = .returned (.tuple #[]) ∧ (Lib.BuilderAt 102 5 B b (.pointer (some ⟨b, 0, none⟩)) [] w' ∧ Below B w w') := by
  obtain ⟨cs, hrun, hle, hmax⟩ := Lib.run_makeNoZero (P := Tryz.prog) w.drew #[3] 77 5 Tryz.underlying77 n hn
  have hw : IntKind.i64.wrap (IntKind.i64.wrap 0 + (n : Int)) = n := by
    rw [IntKind.wrap_i64, IntKind.wrap_i64]
    omega
  have hcall : (callFunc 145 #[.int .i64 (IntKind.i64.wrap (IntKind.i64.wrap 0 + (n : Int)))]).run Tryz.prog w.drew = .ok (.value (.slice (some ⟨w.drew.heap.size, 0, none⟩) n cs.size)) (w.drew.drew.drew.alloc (.cells cs 5)) := by
    rw [hw, run_callFunc_extern Tryz.func145 (by kernel_rfl) (by kernel_rfl) (by kernel_rfl) (e := Extern.BytealgMakeNoZero.makeNoZero #[3] #[77]) (by kernel_rfl), hrun]
    rfl
  have c1 : w.drew.cell? ⟨b, 1, none⟩ = some (.slice none 0 0) := by
    have : w.drew.heap[b]? = _ := hbk
    rw [Lib.cell_of_heap this]; rfl
  have c2 : (w.alloc (.cells cs 5)).cell? ⟨b, 1, none⟩ = some (.slice none 0 0) := by
    have hlt : b < w.heap.size := by
      rcases Nat.lt_or_ge b w.heap.size with h' | h'
      · exact h'
      · simp [Array.getElem?_eq_none h'] at hbk
    have : (w.alloc (.cells cs 5)).heap[b]? = _ := (Lib.alloc_old w _ b hlt).trans hbk
    rw [Lib.cell_of_heap this]; rfl
  have f2 : (w.alloc (.cells cs 5)).frozen? ⟨b, 1, none⟩ = false := by
    have hlt : b < w.heap.size := by
      rcases Nat.lt_or_ge b w.heap.size with h' | h'
      · exact h'
      · simp [Array.getElem?_eq_none h'] at hbk
    exact Lib.frozen_of_heap ((Lib.alloc_old w _ b hlt).trans hbk) 1
  have sizeByte : (Tryz.prog.info? 5).map (·.size) = some 1 := by kernel_rfl
  have hcopy : ∀ W : World, (Builtin.copy_ #[77, 77] 3 #[.slice (some ⟨w.heap.size, 0, none⟩) 0 cs.size, .slice none 0 0]).run Tryz.prog W = .ok (goInt 0) W :=
    fun W => run_copy_none W 77 77 3 5 _ _ 0 cs.size 0 0 Tryz.underlying77 sizeByte rfl
  clear hw
  go_enter Tryz.func117, Tryz.ntmps117
  go_wp2
  have hfin := Lib.grown_fresh (T := 102) (e := 5) (cs := cs) hB hbk hBw (hmax (by unfold maxLen; omega)) (by decide)
  go_region
  all_goals (go_wp2; go_end0; exact ⟨rfl, hfin⟩)

set_option maxHeartbeats 2000000 in
set_option maxRecDepth 100000 in
theorem Grow_fresh (B b n : Nat) (w : World) (hB : B ≤ b) (hbk : w.heap[b]? = some (.cells #[.pointer none, .slice none 0 0] 102 (0, 0))) (hBw : B ≤ w.heap.size) (hn : n ≤ 281474976710656) :
    Calls Tryz.prog 83 #[.pointer (some ⟨b, 0, none⟩), .int .i64 n] w fun e w' => e = .returned (.tuple #[]) ∧ (Lib.BuilderAt 102 5 B b (.pointer (some ⟨b, 0, none⟩)) [] w' ∧ Below B w w') := by
  have hbk1 : (w.setCell ⟨b, 0, none⟩ (.pointer (some ⟨b, 0, none⟩))).heap[b]? = some (.cells #[.pointer (some ⟨b, 0, none⟩), .slice none 0 0] 102 (0, 0)) := by
    simp [World.setCell, Array.getElem?_modify, hbk]
  have c1 : (w.setCell ⟨b, 0, none⟩ (.pointer (some ⟨b, 0, none⟩))).cell? ⟨b, 1, none⟩ = some (.slice none 0 0) := by rw [Lib.cell_of_heap hbk1]; rfl
  have hb1 : Below B w (w.setCell ⟨b, 0, none⟩ (.pointer (some ⟨b, 0, none⟩))) := (Below.refl B w).setCell (p := ⟨b, 0, none⟩) hB _
  have hU : Lib.BuilderAt 102 5 B b (.pointer (some ⟨b, 0, none⟩)) [] (w.setCell ⟨b, 0, none⟩ (.pointer (some ⟨b, 0, none⟩))) := ⟨hB, .slice none 0 0, hbk1, World.ownsRow_nil _ _ _ _, by simp [Value.ownBlock]⟩
  have c1' : (w.setCell ⟨b, 0, none⟩ (.pointer (some ⟨b, 0, none⟩))).drew.cell? ⟨b, 1, none⟩ = some (.slice none 0 0) := c1
  go_enter Tryz.func83, Tryz.ntmps83
  go_wp2_with (go_at_call 84; refine (copyCheck_fresh b w (by rw [Lib.cell_of_heap hbk]; rfl) (by simp [World.shape?, hbk]) (Lib.frozen_of_heap hbk 0)).mono ?_; rintro e w' ⟨rfl, rfl⟩)
  go_region
  all_goals go_wp2_with (go_at_call 117; refine (grow_fresh B b n (w.setCell ⟨b, 0, none⟩ (.pointer (some ⟨b, 0, none⟩))).drew hB hbk1 (by simpa [World.setCell, World.drew, -World.drew_eq] using hBw) hn).mono ?_; rintro e w' ⟨rfl, h1, h2⟩)
  all_goals first
    | (go_end0; exact ⟨rfl, h1, hb1.drew.trans h2⟩)
    | (go_end0; exact ⟨rfl, hU.drew, hb1.drew⟩)
end Go.Proofs.YtbhmdcdhklgomaaGreatDoor
