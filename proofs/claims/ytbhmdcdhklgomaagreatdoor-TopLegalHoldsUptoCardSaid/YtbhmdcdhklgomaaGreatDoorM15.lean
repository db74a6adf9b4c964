/-
  What the package-level variables hold; strconv.Atoi, Itoa; entry.isDate; netstring.Number, String.
-/
import Derived.Test.YtbhmdcdhklgomaaGreatDoorM02
import Derived.Test.YtbhmdcdhklgomaaGreatDoorM09
import Derived.Lib.LaidTab
import Derived.Lib.AppendIntMem
import Derived.Lib.AtoiErrMem
import Derived.Lib.ItoaLen
import Derived.Test.YtbhmdcdhklgomaaGreatDoorM13
import Derived.Shelf.Strings.SlTrimAscii
import Derived.Test.YtbhmdcdhklgomaaGreatDoorM05
import Derived.Test.YtbhmdcdhklgomaaGreatDoorM07
namespace Go.Proofs.YtbhmdcdhklgomaaGreatDoor
open Go.RowKit Top

/-- The variables ErrSyntax, ErrRange and the table of powers are as the program lays them. -/
structure Ground (w : World) : Prop where
  syn : ∃ ev, w.cell? ⟨2, 0, none⟩ = some ev ∧ (ev = .nilIface ∨ ∃ te pe, ev = .iface te pe)
  ran : ∃ ev, w.cell? ⟨3, 0, none⟩ = some ev ∧ (ev = .nilIface ∨ ∃ te pe, ev = .iface te pe)
  tab : Lib.TabIs Tryz.prog w "internal/strconv.uint64pow10" .u64 Lib.pow10Tab
theorem tab_below {w w' : World} (h : Lib.TabIs Tryz.prog w "internal/strconv.uint64pow10" .u64 Lib.pow10Tab) (hb : Below w.heap.size w w') : Lib.TabIs Tryz.prog w' "internal/strconv.uint64pow10" .u64 Lib.pow10Tab := by
  unfold Lib.TabIs World.var? at h ⊢
  cases hg : Tryz.prog.globalNamed "internal/strconv.uint64pow10" with
  | none =>
    rw [hg] at h
    simp at h
  | some g =>
    rw [hg] at h
    simp only [Option.bind_some] at h ⊢
    have hlt : g < w.heap.size := by
      rcases Nat.lt_or_ge g w.heap.size with h' | h'
      · exact h'
      · rw [Array.getElem?_eq_none h'] at h; cases h
    rw [hb.block g hlt]
    exact h
theorem Ground.below {w w' : World} (h : Ground w) (hb : Below w.heap.size w w') : Ground w' := by
  obtain ⟨⟨e1, h1, h2⟩, ⟨e2, h3, h4⟩, h5⟩ := h
  exact ⟨⟨e1, (hb.cell (World.block_lt_of_cell? _ _ h1)).trans h1, h2⟩, ⟨e2, (hb.cell (World.block_lt_of_cell? _ _ h3)).trans h3, h4⟩, tab_below h5 hb⟩

def atoiV (l : Bs) : Int := match Lib.atoiAll l with
  | .ok n => n
  | .range => Lib.atoiSat l
  | Lib.NumEnd.syntax => 0
def atoiOk (l : Bs) : Bool := match Lib.atoiAll l with
  | .ok _ => true
  | _ => false
theorem atoi_any (l : Bs) (w : World) (hg : Ground w) (hl : l.length ≤ 16777216) :
    Calls Tryz.prog 131 #[.string ⟨l.toArray⟩] w fun e w' => ∃ ev, e = .returned (.tuple #[.int .i64 (atoiV l), ev]) ∧ ((atoiOk l = true ∧ ev = .nilIface) ∨ (atoiOk l = false ∧ ∃ t p, ev = .iface t p)) ∧ Below w.heap.size w w' := by
  have hs : (⟨l.toArray⟩ : ByteArray).size = l.length := rfl
  cases h : Lib.atoiAll l with
  | ok n =>
    refine (Tryz.strconv_Atoi_ok ⟨l.toArray⟩ (by omega) n h w).mono ?_
    rintro e w' ⟨rfl, hb⟩
    refine ⟨.nilIface, by unfold atoiV; rw [h], .inl ⟨by unfold atoiOk; rw [h], rfl⟩, ?_⟩
    rcases hb with rfl | ⟨t, rfl⟩
    · exact Below.refl _ _
    · exact Lib.bytesWorld_below _ _ _
  | range =>
    obtain ⟨ev, h1, h2⟩ := hg.ran
    refine (Tryz.strconv_Atoi_range ⟨l.toArray⟩ (by omega) h ev w h1 h2).mono ?_
    rintro e w' ⟨N, rfl, _, _, hb⟩
    exact ⟨_, by unfold atoiV; rw [h], .inr ⟨by unfold atoiOk; rw [h], _, _, rfl⟩, hb⟩
  | _ =>
    obtain ⟨ev, h1, h2⟩ := hg.syn
    refine (Tryz.strconv_Atoi_syntax ⟨l.toArray⟩ (by omega) h ev w h1 h2).mono ?_
    rintro e w' ⟨N, rfl, _, _, hb⟩
    exact ⟨_, by unfold atoiV; rw [h], .inr ⟨by unfold atoiOk; rw [h], _, _, rfl⟩, hb⟩
theorem itoa_any (n : Int) (w : World) (hg : Ground w) (h0 : -9223372036854775808 ≤ n) (h1 : n ≤ 9223372036854775807) :
    Calls Tryz.prog 41 #[.int .i64 n] w fun e w' => e = .returned (.string ⟨(Lib.itoa n).toArray⟩) ∧ Below w.heap.size w w' := by
  refine (Tryz.strconv_Itoa n h0 h1 w hg.tab).mono ?_
  rintro e w' ⟨rfl, k, os, rfl⟩
  exact ⟨rfl, Lib.below_grow _ _ (Nat.le_refl _) _ _⟩
/-- netstring. -/
def numB (n : Int) : Bs := Lib.itoa n ++ [32]
def strB (s : Bs) : Bs := Lib.itoa s.length ++ (58 :: (s ++ [44]))
theorem ba_app (a b : Bs) : (⟨a.toArray⟩ : ByteArray) ++ (⟨b.toArray⟩ : ByteArray) = ⟨(a ++ b).toArray⟩ := by
  apply ByteArray.ext
  simp
set_option maxHeartbeats 1000000 in
theorem number_any (n : Int) (w : World) (hg : Ground w) (h0 : -9223372036854775808 ≤ n) (h1 : n ≤ 9223372036854775807) :
    Calls Tryz.prog 44 #[.int .i64 n] w fun e w' => e = .returned (.string ⟨(numB n).toArray⟩) ∧ Below w.heap.size w w' := by
  have HI := Lib.hid (itoa_any n w hg h0 h1)
  have ha : (⟨(Lib.itoa n).toArray⟩ : ByteArray) ++ (⟨#[32]⟩ : ByteArray) = ⟨(numB n).toArray⟩ := ba_app (Lib.itoa n) [32]
  have HA := Lib.hid ha
  have hz : (⟨(Lib.itoa n).toArray⟩ : ByteArray).size ≤ 21 := Lib.itoa_length_le n h0 h1
  clear h0 h1 hg ha
  generalize (⟨(Lib.itoa n).toArray⟩ : ByteArray) = U at *
  go_enter Tryz.func44, Tryz.ntmps44
  go_wp2_with fail
  refine HI.out.mono ?_
  rintro e w' ⟨rfl, hb⟩
  go_wp2_with fail
  go_ret
  rw [← HA.out]
  exact ⟨rfl, hb⟩
set_option maxHeartbeats 1000000 in
theorem string_any (l : Bs) (w : World) (hg : Ground w) (hl : l.length ≤ 281474976710656) :
    Calls Tryz.prog 40 #[.string ⟨l.toArray⟩] w fun e w' => e = .returned (.string ⟨(strB l).toArray⟩) ∧ Below w.heap.size w w' := by
  have HI := Lib.hid (itoa_any l.length w hg (by omega) (by omega))
  have ha : (((⟨(Lib.itoa l.length).toArray⟩ : ByteArray) ++ (⟨#[58]⟩ : ByteArray)) ++ (⟨l.toArray⟩ : ByteArray)) ++ (⟨#[44]⟩ : ByteArray) = ⟨(strB l).toArray⟩ := by
    have e1 := ba_app (Lib.itoa l.length) [58]
    have e2 := ba_app (Lib.itoa l.length ++ [58]) l
    have e3 := ba_app (Lib.itoa l.length ++ [58] ++ l) [44]
    rw [show (⟨#[58]⟩ : ByteArray) = ⟨[58].toArray⟩ from rfl, e1, e2, show (⟨#[44]⟩ : ByteArray) = ⟨[44].toArray⟩ from rfl, e3]
    unfold strB
    simp
  have HA := Lib.hid ha
  have hz : (⟨(Lib.itoa l.length).toArray⟩ : ByteArray).size ≤ 21 := Lib.itoa_length_le (l.length : Int) (by omega) (by omega)
  have hs : (⟨l.toArray⟩ : ByteArray).size = l.length := rfl
  clear hg ha
  generalize (⟨(Lib.itoa l.length).toArray⟩ : ByteArray) = U at *
  generalize (⟨l.toArray⟩ : ByteArray) = V at *
  have hz1 : (U ++ (⟨#[58]⟩ : ByteArray)).size ≤ 22 := by rw [ByteArray.size_append]; exact Nat.add_le_add hz (Nat.le_refl 1)
  have hz2 : ((U ++ (⟨#[58]⟩ : ByteArray)) ++ V).size ≤ 22 + 281474976710656 := by rw [ByteArray.size_append, hs]; omega
  go_enter Tryz.func40, Tryz.ntmps40
  go_wp2_with fail
  refine HI.out.mono ?_
  rintro e w' ⟨rfl, hb⟩
  go_wp2_with fail
  go_ret
  rw [← HA.out]
  exact ⟨rfl, hb⟩
theorem isDate_eq (l : Bs) : isDate l = (atoiOk l && (decide (0 ≤ atoiV l) && (decide (atoiV l ≤ 1000000000) && Lib.itoa (atoiV l) == l))) := by
  unfold isDate atoiOk atoiV
  cases Lib.atoiAll l <;> simp [Bool.and_assoc]
set_option maxHeartbeats 2000000 in
theorem isDate_any (l : Bs) (w : World) (hg : Ground w) (hl : l.length ≤ 16777216) :
    Calls Tryz.prog 148 #[.string ⟨l.toArray⟩] w fun e w' => e = .returned (.bool (isDate l)) ∧ Below w.heap.size w w' := by
  rw [isDate_eq]
  have HA := Lib.hid (atoi_any l w hg hl)
  have HG := Lib.hid hg
  have HI := Lib.hid (fun X (hX : Ground X) (h0 : 0 ≤ atoiV l) (h1 : atoiV l ≤ 1000000000) => itoa_any (atoiV l) X hX (by omega) (by omega))
  have he : ((⟨(Lib.itoa (atoiV l)).toArray⟩ : ByteArray).toList == (⟨l.toArray⟩ : ByteArray).toList) = (Lib.itoa (atoiV l) == l) := by rw [Lib.toList_data, Lib.toList_data]
  rw [← he]
  clear he hg hl
  generalize (⟨(Lib.itoa (atoiV l)).toArray⟩ : ByteArray) = U at *
  generalize (⟨l.toArray⟩ : ByteArray) = V at *
  generalize atoiV l = n at *
  generalize atoiOk l = b at *
  go_enter Tryz.func148, Tryz.ntmps148
  go_wp2_with fail
  refine HA.out.mono ?_
  rintro e w' ⟨ev, rfl, hev, hb⟩
  rcases hev with ⟨rfl, rfl⟩ | ⟨rfl, t, p, rfl⟩
  · by_cases h0 : 0 ≤ n
    · by_cases h1 : n ≤ 1000000000
      · have HC := Lib.hid (HI.out w' (HG.out.below hb) h0 h1)
        go_wp2_with fail
        refine HC.out.mono ?_
        rintro e w2 ⟨rfl, hb2⟩
        go_wp2_with fail
        go_ret
        try rw [decide_eq_true h0]
        try rw [decide_eq_true (show n ≤ 1000000000 by omega)]
        exact ⟨rfl, hb.trans (hb2.mono hb.size)⟩
      · go_wp2_with fail
        go_ret
        try rw [decide_eq_true h0]
        try rw [decide_eq_false (show ¬ n ≤ 1000000000 by omega)]
        exact ⟨rfl, hb⟩
    · go_wp2_with fail
      go_ret
      try rw [decide_eq_false (show ¬ 0 ≤ n by omega)]
      exact ⟨rfl, hb⟩
  · go_wp2_with fail
    go_ret
    exact ⟨rfl, hb⟩
end Go.Proofs.YtbhmdcdhklgomaaGreatDoor

/-
  retention.dateOf; the closures of retention.Apply.
-/
namespace Go.Proofs.YtbhmdcdhklgomaaGreatDoor
open Go.RowKit Top

def digs : Bs := [48, 49, 50, 51, 52, 53, 54, 55, 56, 57]
theorem digs_contains (c : UInt8) : digs.contains c = isDigit c := by
  have h : ∀ n : Nat, n < 256 → digs.contains (UInt8.ofNat n) = isDigit (UInt8.ofNat n) := by decide +kernel
  have := h c.toNat (UInt8.toNat_lt c)
  rwa [UInt8.ofNat_toNat] at this
theorem trim_digs (l : Bs) : (Lib.trimS l digs = []) ↔ l.all isDigit = true := by
  rw [Cells.trim_nil]
  have : (fun c => digs.contains c) = isDigit := funext digs_contains
  rw [this]
theorem dateOf_ok {l : Bs} (h0 : l ≠ []) (h1 : l.all isDigit = true) (h2 : ¬ (l.head? = some 48 ∧ l ≠ [48])) : dateOf l = (atoiV l, atoiOk l && decide (atoiV l ≤ 1000000000)) := by
  unfold dateOf
  rw [if_neg (by rintro (h | h | h); exact h0 h; exact h h1; exact h2 h)]
  unfold atoiV atoiOk
  cases Lib.atoiAll l <;> rfl
theorem dateOf_no {l : Bs} (h : l = [] ∨ ¬ l.all isDigit = true ∨ (l.head? = some 48 ∧ l ≠ [48])) : dateOf l = (0, false) := by
  unfold dateOf
  rw [if_pos h]
set_option maxHeartbeats 2000000 in
theorem dateOf_any (l : Bs) (w : World) (hg : Ground w) (hl : l.length ≤ 16777216) :
    Calls Tryz.prog 102 #[.string ⟨l.toArray⟩] w fun e w' => e = .returned (.tuple #[.int .i64 (dateOf l).1, .bool (dateOf l).2]) ∧ Below w.heap.size w w' := by
  have hs : (⟨l.toArray⟩ : ByteArray).size = l.length := rfl
  have ht := Any.strings_Trim_laid Tryz.lays160 (by kernel_rfl) ⟨l.toArray⟩ ⟨#[48, 49, 50, 51, 52, 53, 54, 55, 56, 57]⟩ w (by omega) (by decide) (ascii_of_all (by decide))
  have HT := Lib.hid ht
  have HA := Lib.hid (fun X (hX : Below w.heap.size w X) => atoi_any l X (hg.below hX) hl)
  clear ht hg
  have he : ((⟨l.toArray⟩ : ByteArray).toList == []) = decide (l = []) := by
    rw [Lib.toList_data]
    cases l <;> rfl
  have h48 : ((⟨l.toArray⟩ : ByteArray).toList == [48]) = decide (l = [48]) := by
    rw [Lib.toList_data]
    rw [Bool.eq_iff_iff, beq_iff_eq, decide_eq_true_iff]
  have htr : ((⟨(Lib.trimS (⟨l.toArray⟩ : ByteArray).data.toList (⟨#[48, 49, 50, 51, 52, 53, 54, 55, 56, 57]⟩ : ByteArray).data.toList).toArray⟩ : ByteArray).toList == []) = l.all isDigit := by
    rw [Lib.toList_data]
    show (Lib.trimS l digs == []) = _
    rw [Bool.eq_iff_iff, beq_iff_eq]
    exact trim_digs l
  generalize (⟨(Lib.trimS (⟨l.toArray⟩ : ByteArray).data.toList (⟨#[48, 49, 50, 51, 52, 53, 54, 55, 56, 57]⟩ : ByteArray).data.toList).toArray⟩ : ByteArray) = TT at *
  by_cases h0 : l = []
  · rw [dateOf_no (.inl h0)]
    rw [decide_eq_true h0] at he
    clear htr h48 hs h0
    generalize (⟨l.toArray⟩ : ByteArray) = U at *
    go_enter Tryz.func102, Tryz.ntmps102
    go_wp2_with fail
    go_ret2
    exact ⟨rfl, Below.refl _ _⟩
  · rw [decide_eq_false h0] at he
    cases h1 : l.all isDigit with
    | false =>
      rw [h1] at htr
      rw [dateOf_no (.inr (.inl (by rw [h1]; decide)))]
      clear h48 h1 h0
      generalize (⟨l.toArray⟩ : ByteArray) = U at *
      go_enter Tryz.func102, Tryz.ntmps102
      go_wp2_with fail
      refine HT.out.mono ?_
      rintro e w' ⟨rfl, hb⟩
      go_wp2_with fail
      go_ret2
      exact ⟨rfl, hb⟩
    | true =>
      rw [h1] at htr
      obtain ⟨c, r, rfl⟩ : ∃ c r, l = c :: r := by
        cases l with
        | nil => exact absurd rfl h0
        | cons c r => exact ⟨c, r, rfl⟩
      have hc0 : 0 < (⟨(c :: r).toArray⟩ : ByteArray).size := by rw [hs]; simp
      have hcz : ∀ g : 0 < (⟨(c :: r).toArray⟩ : ByteArray).size, (⟨(c :: r).toArray⟩ : ByteArray)[0] = c := fun g => rfl
      have hc1 : ((((⟨(c :: r).toArray⟩ : ByteArray)[0]).toNat : Int) == 48) = (c == 48) := by rw [hcz hc0, beq48]
      by_cases h2 : (c = 48 ∧ c :: r ≠ [48])
      · rw [dateOf_no (.inr (.inr ⟨by rw [h2.1]; rfl, h2.2⟩))]
        rw [decide_eq_false h2.2] at h48
        have hc2 := hc1.trans (show (c == 48) = true by rw [h2.1]; rfl)
        clear h1 h0 hcz hs h2 hc1
        generalize (⟨(c :: r).toArray⟩ : ByteArray) = U at *
        go_enter Tryz.func102, Tryz.ntmps102
        go_wp2_with fail
        refine HT.out.mono ?_
        rintro e w' ⟨rfl, hb⟩
        go_wp2_with fail
        go_ret2
        exact ⟨rfl, hb⟩
      · rw [dateOf_ok h0 h1 (fun h => h2 ⟨by have := h.1; simpa using this, h.2⟩)]
        generalize atoiV (c :: r) = n at *
        generalize atoiOk (c :: r) = b at *
        have hcase : (c == 48) = false ∨ ((c == 48) = true ∧ decide (c :: r = [48]) = true) := by
          by_cases hc : c = 48
          · exact .inr ⟨by rw [hc]; rfl, decide_eq_true (Decidable.byContradiction fun h => h2 ⟨hc, h⟩)⟩
          · exact .inl (beq_eq_false_iff_ne.2 hc)
        rw [← h48, ← hc1] at hcase
        clear h1 h0 hcz hs h2 h48 hc1
        generalize (⟨(c :: r).toArray⟩ : ByteArray) = U at *
        rcases hcase with hc2 | ⟨hc2, hc3⟩
        all_goals
          go_enter Tryz.func102, Tryz.ntmps102
          go_wp2_with fail
          refine HT.out.mono ?_
          rintro e w' ⟨rfl, hb⟩
          have HAX := Lib.hid (HA.out w' hb)
          go_wp2_with fail
          refine HAX.out.mono ?_
          rintro e w2 ⟨ev, rfl, hev, hb2⟩
          rcases hev with ⟨rfl, rfl⟩ | ⟨rfl, t, p, rfl⟩
          · go_wp2_with fail
            go_ret2
            exact ⟨rfl, hb.trans (hb2.mono hb.size)⟩
          · go_wp2_with fail
            go_ret2
            exact ⟨rfl, hb.trans (hb2.mono hb.size)⟩
end Go.Proofs.YtbhmdcdhklgomaaGreatDoor

/-
  slices.Insert of one element into a row of the call's own (api.Hold). (Written by gen_tins.py.)
-/
namespace Go.Proofs.YtbhmdcdhklgomaaGreatDoor
open Go.RowKit Top

/-- The model's entry for slices.overlaps, two blocks apart. -/
theorem overlaps_hold {w : World} {vb g : Nat} {c0 c1 : Array Value} (h0 : w.heap[vb]? = some (.cells c0 87 (0, 0))) (h1 : w.heap[g]? = some (.cells c1 87 (0, 0))) (hne : vb ≠ g) (hz : c1.size ≠ 0) (o la ca lb cb : Nat) :
    (callFunc 132 #[.slice (some ⟨vb, 0, none⟩) la ca, .slice (some ⟨g, o, none⟩) lb cb]).run Tryz.prog w = .ok (.value (.bool false)) w := by
  obtain ⟨i, hi, _, hz1, _⟩ := parts_of info_hold
  rw [run_callFunc_extern Tryz.func132 (by kernel_rfl) (by kernel_rfl) (by kernel_rfl) (e := Extern.SlicesOverlaps.overlaps #[36, 36] #[4]) (by kernel_rfl),
    Lib.run_overlaps_apart w 36 4 87 Tryz.underlying36 2 (fun w => by simp [sizeOf, typeInfo, hi, hz1]) ⟨vb, 0, none⟩ ⟨g, o, none⟩ la ca lb cb hne 87 87 c0.size c1.size (by simp [World.shape?, h0]) (by simp [World.shape?, h1]) hz (tfree h0 0) (tfree h0 _)]
  rfl

set_option maxHeartbeats 4000000 in
set_option maxRecDepth 100000 in
theorem ins_hold (v : Value) (n i B vb : Nat) (xs vs : List Value) (w : World) (hown : w.ownsRow B 87 2 v n xs) (hin : i ≤ n) (hn : n ≤ 65536) (hvl : vs.length = 2) (h1x : ∀ u ∈ xs, u.oneCell' = true) (h1 : ∀ u ∈ vs, u.oneCell' = true)
    (hblk : w.heap[vb]? = some (.cells vs.toArray 87 (0, 0))) (hvb : v.ownBlock ≠ some vb) (hB : B ≤ w.heap.size) :
    Calls Tryz.prog 104 #[v, .int .i64 i, .slice (some ⟨vb, 0, none⟩) 1 1] w fun e w' => ∃ v', e = .returned v' ∧ w'.ownsRow B 87 2 v' (n + 1) (xs.take (i * 2) ++ (vs ++ xs.drop (i * 2))) ∧ Below B w w' := by
  obtain ⟨i0, hi0, hz0, hz1, hz2⟩ := parts_of info_hold
  have hxl : xs.length = n * 2 := hown.1
  by_cases he : i = n
  · subst he
    have ht : xs.take (i * 2) ++ (vs ++ xs.drop (i * 2)) = xs ++ vs := by
      rw [List.take_of_length_le (by omega), List.drop_of_length_le (by omega), List.append_nil]
    rw [ht]
    have HO := Lib.hid hown
    have HK := Lib.hid hblk
    obtain ⟨ao, cap, rfl, hc0, hcm⟩ : ∃ ao cap, v = .slice ao i cap ∧ i ≤ cap ∧ cap ≤ maxLen := by
      rcases hown.2 with ⟨rfl, h⟩ | ⟨g, cap, cur, rfl, _, _, h2, h3, _⟩
      · exact ⟨none, 0, by rw [h], by omega, by simp [maxLen]⟩
      · exact ⟨_, cap, rfl, h2, h3⟩
    unfold maxLen at hcm
    clear hown hblk ht hxl
    rcases Nat.lt_or_ge i cap with hce | hce
    · have q : ¬ cap = i := by omega
      go_enter Tryz.func104, Tryz.ntmps104
      go_wp2_with (at_builtin; refine wpList_append_own _ rfl (.tmp 23) (.tmp 24) 36 rfl B 87 i0 (.agg #[.string ByteArray.empty, .int .i64 0]) 2 24 Tryz.underlying36 hi0 hz0 hz1 hz2 rfl (by decide) _ i xs rfl HO.out ⟨vb, 0, none⟩ 1 1 vs rfl (by omega) (World.news_of_block HK.out) h1 (by unfold maxLen; omega) (by omega) hB ?_; intro v' w' ho hg _)
      go_ret
      exact ⟨_, rfl, ho, (Below.refl B w).grown hg hB fun k hk => (World.ownsRow.lt HO.out k hk).1⟩
    · obtain rfl : cap = i := by omega
      clear hce
      go_enter Tryz.func104, Tryz.ntmps104
      go_wp2_with (at_builtin; refine wpList_append_own _ rfl (.tmp 23) (.tmp 24) 36 rfl B 87 i0 (.agg #[.string ByteArray.empty, .int .i64 0]) 2 24 Tryz.underlying36 hi0 hz0 hz1 hz2 rfl (by decide) _ cap xs rfl HO.out ⟨vb, 0, none⟩ 1 1 vs rfl (by omega) (World.news_of_block HK.out) h1 (by unfold maxLen; omega) (by omega) hB ?_; intro v' w' ho hg _)
      go_ret
      exact ⟨_, rfl, ho, (Below.refl B w).grown hg hB fun k hk => (World.ownsRow.lt HO.out k hk).1⟩
  · rcases hown.2 with ⟨_, h⟩ | ⟨g, cap, cur, rfl, hBg, hh, hc, hcm, hcs, htk⟩
    · omega
    have hne : vb ≠ g := fun e => hvb (by rw [e]; rfl)
    have hal : i * 2 ≤ n * 2 := by omega
    have hcl : cur.toList.length = cap * 2 := by rw [Array.length_toList, hcs]
    have hdl : (xs.drop (i * 2)).length = (n - i) * 2 := by rw [List.length_drop, hxl]; omega
    have hcell : ∀ (W : World) (c : Array Value), W.heap[g]? = some (.cells c 87 (0, 0)) → c.toList.take (n * 2) = xs → ∀ j u, (xs.drop (i * 2))[j]? = some u → W.cell? ((⟨g, i * 2, none⟩ : Addr).add j) = some u := fun W c hW hx j u hj => by
      rw [List.getElem?_drop, ← hx, List.getElem?_take] at hj
      split at hj
      · rw [Addr.add_lit]
        refine tcell hW _ _ ?_
        rw [Array.getElem?_toList] at hj
        exact hj
      · cases hj
    have hinfo : (Tryz.prog.info? 87).map (·.size) = some 2 := by rw [hi0]; simp [hz1]
    have q1 : (i : Int) ≤ (n : Int) := by omega
    have q2 : ((i : Int) == (n : Int)) = false := beq_eq_false_iff_ne.2 (by omega)
    have q3 : IntKind.i64.wrap ((n : Int) + 1) = (n : Int) + 1 := IntWalk.i64_in _ (by omega)
    have q4 : IntKind.i64.wrap ((i : Int) + 1) = (i : Int) + 1 := IntWalk.i64_in _ (by omega)
    have q5 : (0 : Int) ≤ (i : Int) + 1 := by omega
    have q6 : ((i : Int) + 1).toNat = i + 1 := by omega
    have q7 : (0 : Int) ≤ (n : Int) + 1 := by omega
    have q8 : ((n : Int) + 1).toNat = n + 1 := by omega
    unfold maxLen at hcm
    by_cases hroom : n + 1 ≤ cap
    · obtain ⟨l1, l2, l3⟩ := put_in (cur := cur.toList) (vs := vs) htk hal (by omega)
      have q9 : ¬ ((cap : Int) < (n : Int) + 1) := by omega
      have q10 : (n : Int) + 1 ≤ (cap : Int) := by omega
      have q11 : ¬ cap = i + 1 := by omega
      have q12 : ¬ cap = i := by omega
      have q13 : (i : Int) ≤ (n : Int) + 1 := by omega
      have q14 : (i : Int) + 1 ≤ (n : Int) + 1 := by omega
      have q15 : i ≤ n + 1 := by omega
      have q16 : i + 1 ≤ n + 1 := by omega
      have hov := fun lb cb => overlaps_hold hblk hh hne (by rw [hcs]; omega) ((i + 1) * 2) 1 1 lb cb
      have hcp1 : ∀ O L1 L2 dc sc ty, O = (i + 1) * 2 → L1 = n - i → L2 = n + 1 - i → (Builtin.copy_ #[36, 36] ty #[.slice (some ⟨g, O, none⟩) L1 dc, .slice (some ⟨g, i * 2, none⟩) L2 sc]).run Tryz.prog w.drew = .ok (goInt ((n - i : Nat) : Int)) (w.drew.setRow g (put1 cur.toList xs vs (i * 2)).toArray) := fun O L1 L2 dc sc ty hO hL1 hL2 => by
        subst hO hL1 hL2
        have := run_copy_rowk (P := Tryz.prog) w.drew 36 36 ty 87 2 g ((i + 1) * 2) (n - i) dc ⟨g, i * 2, none⟩ (n + 1 - i) sc cur 87 (xs.drop (i * 2)) (n - i) Tryz.underlying36 hinfo hh (by simp only [Nat.min_def]; split <;> omega) hdl (hcell _ _ hh htk) (by rw [hdl, hcs]; omega) (fun u hu => h1x u (List.mem_of_mem_drop hu))
        rw [this]
        unfold put1
        rw [hvl, show (i + 1) * 2 = i * 2 + 2 by omega]
      obtain ⟨W1, hW1⟩ : ∃ W1, w.drew.setRow g (put1 cur.toList xs vs (i * 2)).toArray = W1 := ⟨_, rfl⟩
      have hh1 : W1.heap[g]? = some (.cells (put1 cur.toList xs vs (i * 2)).toArray 87 (0, 0)) := by rw [← hW1]; exact setRow_heap _ _ _ _ _ _ hh
      have hk1 : W1.heap[vb]? = some (.cells vs.toArray 87 (0, 0)) := by rw [← hW1]; exact (setRow_other _ _ _ _ hne).trans hblk
      have hb1 : Below B w W1 := by rw [← hW1]; exact below_setRow ((Below.refl B w).drew) hBg _
      rw [hW1] at hcp1
      have hcp2 : ∀ W L dc ty, W.heap = W1.heap → L = n + 1 - i → (Builtin.copy_ #[36, 36] ty #[.slice (some ⟨g, i * 2, none⟩) L dc, .slice (some ⟨vb, 0, none⟩) 1 1]).run Tryz.prog W = .ok (goInt 1) (W.setRow g (put2 (put1 cur.toList xs vs (i * 2)) vs (i * 2)).toArray) := fun W L dc ty hW hL => by
        subst hL
        have := run_copy_rowk (P := Tryz.prog) W 36 36 ty 87 2 g (i * 2) (n + 1 - i) dc ⟨vb, 0, none⟩ 1 1 (put1 cur.toList xs vs (i * 2)).toArray 87 vs 1 Tryz.underlying36 hinfo (by rw [hW]; exact hh1) (by simp only [Nat.min_def]; split <;> omega) (by omega) (World.news_of_block (by rw [hW]; exact hk1)) (by simp; omega) h1
        rw [this]
        rfl
      have HCP1 := Lib.hid hcp1
      have HCP2 := Lib.hid hcp2
      have HH1 := Lib.hid hh1
      have HL2 := Lib.hid l1
      have HL3 := Lib.hid l3
      have HCL := Lib.hid hcl
      clear hcp1 hcp2 hh1 hk1 l1 l2 l3 hcell hh hblk htk hcl hdl hxl hW1
      go_enter Tryz.func104, Tryz.ntmps104
      go_wp2_with (simp only [hov])
      go_region_law (refine step_copyR (by rfl) (.tmp 73) (.tmp 76) 36 (by rfl) (.slice (some ⟨g, (i + 1) * 2, none⟩) (n - i) (cap - (i + 1))) (.slice (some ⟨g, i * 2, none⟩) (n + 1 - i) (cap - i)) (by simp [Act.eval, Act.put]) (by simp [Act.eval, Act.put]) (fun ty => HCP1.out _ _ _ _ _ ty rfl rfl rfl) ?_)
      all_goals
        go_wp2_with (refine wpList_copyR rfl (.tmp 80) (.tmp 81) 36 rfl (.slice (some ⟨g, i * 2, none⟩) (n + 1 - i) (cap - i)) (.slice (some ⟨vb, 0, none⟩) 1 1) rfl rfl (fun ty => HCP2.out W1 _ _ ty rfl rfl) ?_)
        go_ret
        refine ⟨_, rfl, ⟨?_, .inr ⟨g, cap, _, rfl, hBg, setRow_heap _ _ _ _ _ _ HH1.out, hroom, by unfold maxLen; omega, ?_, ?_⟩⟩, below_setRow hb1 hBg _⟩
        · rw [← HL3.out, List.length_take, HL2.out, HCL.out, hvl]
          omega
        · rw [List.size_toArray, HL2.out, HCL.out]
        · rw [List.toList_toArray, ← HL3.out, hvl, show (n + 1) * 2 = n * 2 + 2 by omega]
    · have hz : ((.agg #[.string ByteArray.empty, .int .i64 0] : Value)).cells.size = 2 := rfl
      have q9 : (cap : Int) < (n : Int) + 1 := by omega
      have q11 : ¬ cap = i := by omega
      have q12 : IntKind.i64.wrap ((n : Int) + 1 - (i : Int)) = ((n + 1 - i : Nat) : Int) := by rw [IntWalk.i64_in _ (by omega)]; omega
      have q13 : (i : Int) ≤ (n : Int) + 1 := by omega
      have q14 : (i : Int) + 1 ≤ (n : Int) + 1 := by omega
      have q15 : (i : Int) ≤ (cap : Int) := by omega
      have q16 : i ≤ cap := by omega
      have hold : (Builtin.firstCells i0.size i (.slice (some ⟨g, 0, none⟩) i cap)).run Tryz.prog w.drew = .ok (xs.take (i * 2)).toArray w.drew := by
        refine run_firstCells_some w.drew i0.size i ⟨g, 0, none⟩ i cap _ (by rw [hz1, List.length_take]; omega) fun j u hj => ?_
        rw [List.getElem?_take] at hj
        split at hj
        · have := World.ownsRow.cells hown (g := g) rfl j u hj
          exact this
        · cases hj
      have hrz := fun ty => Lib.run_append_grow_zeros (P := Tryz.prog) w 36 3 ty 87 i0 (.agg #[.string ByteArray.empty, .int .i64 0]) .i64 .i64 Tryz.underlying36 Tryz.underlying3 hi0 hz0 (some ⟨g, 0, none⟩) i cap _ hold (n + 1 - i) (by omega) (by rw [hz1]; decide) (by omega) (by omega) (by rw [hz2]; omega) (growslice_fits (by omega) (by rw [hz2]; omega))
      have hG1 := grownCap_ge w (i + (n + 1 - i)) cap 87
      have hG2 := grownCap_le_maxLen w (i + (n + 1 - i)) cap 87 (by unfold maxLen; omega)
      rw [show i + (n + 1 - i) = n + 1 by omega] at hrz hG1 hG2
      generalize grownCap w (n + 1) cap 87 = G at *
      obtain ⟨C0, hC0⟩ : ∃ C0, (xs.take (i * 2)).toArray ++ Builtin.zeroCells (.agg #[.string ByteArray.empty, .int .i64 0] : Value).cells (n + 1 - i) ++ Builtin.zeroCells (.agg #[.string ByteArray.empty, .int .i64 0] : Value).cells (G - (n + 1)) = C0 := ⟨_, rfl⟩
      have hCl : C0.toList.length = G * 2 := by
        rw [← hC0, Array.length_toList, Array.size_append, Array.size_append, size_zeroCells, size_zeroCells, hz, List.size_toArray, List.length_take]
        omega
      have hCt : C0.toList.take (i * 2) = xs.take (i * 2) := by
        rw [← hC0, Array.toList_append, Array.toList_append, List.toList_toArray, List.append_assoc]
        exact List.take_left' (by rw [List.length_take]; omega)
      rw [hC0] at hrz
      obtain ⟨l1, l2, l3⟩ := put_new (c := C0.toList) (vs := vs) hCt hxl hal (by omega)
      obtain ⟨W1, hW1⟩ : ∃ W1, w.drew.alloc (.cells C0 87) = W1 := ⟨_, rfl⟩
      obtain ⟨g1, hg1⟩ : ∃ g1, w.heap.size = g1 := ⟨_, rfl⟩
      have hh1 : W1.heap[g1]? = some (.cells C0 87 (0, 0)) := by rw [← hW1, ← hg1]; exact heap_alloc_new w.drew _
      have hvl1 : vb < w.heap.size := (Array.getElem?_eq_some_iff.1 hblk).1
      have hgl1 : g < w.heap.size := (Array.getElem?_eq_some_iff.1 hh).1
      have hk1 : W1.heap[vb]? = some (.cells vs.toArray 87 (0, 0)) := by rw [← hW1]; exact (Below.heap_alloc w.drew _ vb hvl1).trans hblk
      have hs1 : W1.heap[g]? = some (.cells cur 87 (0, 0)) := by rw [← hW1]; exact (Below.heap_alloc w.drew _ g hgl1).trans hh
      have hB1 : B ≤ g1 := by omega
      have hb1 : Below B w W1 := by rw [← hW1]; exact ((Below.refl B w).drew).alloc hB _
      rw [hW1, hg1] at hrz
      have hn1 : g ≠ g1 := by omega
      have hcp1 : ∀ L dc ty, L = n + 1 - i → (Builtin.copy_ #[36, 36] ty #[.slice (some ⟨g1, i * 2, none⟩) L dc, .slice (some ⟨vb, 0, none⟩) 1 1]).run Tryz.prog W1 = .ok (goInt 1) (W1.setRow g1 (put2 C0.toList vs (i * 2)).toArray) := fun L dc ty hL => by
        subst hL
        have := run_copy_rowk (P := Tryz.prog) W1 36 36 ty 87 2 g1 (i * 2) (n + 1 - i) dc ⟨vb, 0, none⟩ 1 1 C0 87 vs 1 Tryz.underlying36 hinfo hh1 (by simp only [Nat.min_def]; split <;> omega) (by omega) (World.news_of_block hk1) (by rw [← Array.length_toList]; omega) h1
        rw [this]
        rfl
      obtain ⟨W2, hW2⟩ : ∃ W2, W1.setRow g1 (put2 C0.toList vs (i * 2)).toArray = W2 := ⟨_, rfl⟩
      have hh2 : W2.heap[g1]? = some (.cells (put2 C0.toList vs (i * 2)).toArray 87 (0, 0)) := by rw [← hW2]; exact setRow_heap _ _ _ _ _ _ hh1
      have hs2 : W2.heap[g]? = some (.cells cur 87 (0, 0)) := by rw [← hW2]; exact (setRow_other _ _ _ _ hn1).trans hs1
      have hb2 : Below B w W2 := by rw [← hW2]; exact below_setRow hb1 hB1 _
      rw [hW2] at hcp1
      have hcp2 : ∀ O L1 L2 dc sc ty, O = (i + 1) * 2 → L1 = n - i → L2 = n - i → (Builtin.copy_ #[36, 36] ty #[.slice (some ⟨g1, O, none⟩) L1 dc, .slice (some ⟨g, i * 2, none⟩) L2 sc]).run Tryz.prog W2.drew = .ok (goInt ((n - i : Nat) : Int)) (W2.drew.setRow g1 (put3 (put2 C0.toList vs (i * 2)) xs vs (i * 2)).toArray) := fun O L1 L2 dc sc ty hO hL1 hL2 => by
        subst hO hL1 hL2
        have := run_copy_rowk (P := Tryz.prog) W2.drew 36 36 ty 87 2 g1 ((i + 1) * 2) (n - i) dc ⟨g, i * 2, none⟩ (n - i) sc (put2 C0.toList vs (i * 2)).toArray 87 (xs.drop (i * 2)) (n - i) Tryz.underlying36 hinfo hh2 (by simp only [Nat.min_def]; split <;> omega) hdl (hcell _ _ hs2 htk) (by rw [hdl, List.size_toArray, l2]; omega) (fun u hu => h1x u (List.mem_of_mem_drop hu))
        rw [this]
        unfold put3
        rw [hvl, show (i + 1) * 2 = i * 2 + 2 by omega]
      have q17 : ¬ G = i := by omega
      have q18 : ¬ G = i + 1 := by omega
      have q19 : (n : Int) + 1 ≤ (G : Int) := by omega
      unfold maxLen at hG2
      have HRZ := Lib.hid (hrz 36)
      have HCP1 := Lib.hid hcp1
      have HCP2 := Lib.hid hcp2
      have HH2 := Lib.hid hh2
      have HL2 := Lib.hid l1
      have HL3 := Lib.hid l3
      have HCl := Lib.hid hCl
      clear hrz hcp1 hcp2 hh1 hh2 hk1 hs1 hs2 l1 l2 l3 hcell hh hblk htk hcl hdl hxl hW1 hW2 hCl hCt hC0 hold hb1 hg1
      go_enter Tryz.func104, Tryz.ntmps104
      go_wp2_with (first | (at_builtin; refine Lib.wpList_append_run _ rfl (.tmp 34) (.tmp 39) _ _ rfl _ _ rfl rfl _ _ HRZ.out ?_) | (refine wpList_copyR rfl (.tmp 43) (.tmp 44) 36 rfl (.slice (some ⟨g1, i * 2, none⟩) (n + 1 - i) (G - i)) (.slice (some ⟨vb, 0, none⟩) 1 1) rfl rfl (fun ty => HCP1.out _ _ ty rfl) ?_))
      go_region_law (refine step_copyR (by rfl) (.tmp 50) (.tmp 53) 36 (by rfl) (.slice (some ⟨g1, (i + 1) * 2, none⟩) (n - i) (G - (i + 1))) (.slice (some ⟨g, i * 2, none⟩) (n - i) (cap - i)) (by simp [Act.eval, Act.put]) (by simp [Act.eval, Act.put]) (fun ty => HCP2.out _ _ _ _ _ ty rfl rfl rfl) ?_)
      all_goals
        go_wp2_with fail
        go_ret
        refine ⟨_, rfl, ⟨?_, .inr ⟨g1, G, _, rfl, hB1, setRow_heap _ _ _ _ _ _ HH2.out, hG1, by unfold maxLen; omega, ?_, ?_⟩⟩, below_setRow hb2.drew hB1 _⟩
        · rw [← HL3.out, List.length_take, HL2.out, HCl.out, hvl]
          omega
        · rw [List.size_toArray, HL2.out, HCl.out]
        · rw [List.toList_toArray, ← HL3.out, hvl, show (n + 1) * 2 = n * 2 + 2 by omega]
end Go.Proofs.YtbhmdcdhklgomaaGreatDoor
