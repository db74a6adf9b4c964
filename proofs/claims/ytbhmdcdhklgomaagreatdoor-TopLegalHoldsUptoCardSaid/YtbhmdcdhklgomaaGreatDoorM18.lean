/-
  netstring.Strings; entry.names.
-/
import Derived.Test.YtbhmdcdhklgomaaGreatDoorM17
import Derived.Test.YtbhmdcdhklgomaaGreatDoorM02
import Derived.Test.YtbhmdcdhklgomaaGreatDoorM11
namespace Go.Proofs.YtbhmdcdhklgomaaGreatDoor
open Go.RowKit Top

theorem take_flatMap {α β : Type} (f : α → List β) {l : List α} {k : Nat} {x : α} (hx : l[k]? = some x) : (l.take (k + 1)).flatMap f = (l.take k).flatMap f ++ f x := by
  rw [List.take_add_one, hx, List.flatMap_append, Option.toList_some]
  simp
theorem itoa_len (n : Int) (h0 : -9223372036854775808 ≤ n) (h1 : n ≤ 9223372036854775807) : (Lib.itoa n).length ≤ 21 := Lib.itoa_length_le n h0 h1
theorem str_len (s : Bs) (h : s.length ≤ 281474976710656) : (str s).length ≤ s.length + 23 := by
  have := itoa_len s.length (by omega) (by omega)
  unfold str
  simp only [List.length_append, List.length_cons, List.length_nil]
  omega
theorem strs_len : ∀ (l : List Bs) (K : Nat), (∀ x ∈ l, x.length ≤ K) → K ≤ 281474976710656 → (strs l).length ≤ l.length * (K + 23)
  | [], K, _, _ => by simp [strs]
  | x :: l, K, h, hK => by
    have h1 := strs_len l K (fun y hy => h y (List.mem_cons_of_mem _ hy)) hK
    have h2 := str_len x (by have := h x (List.mem_cons_self ..); omega)
    have h3 := h x (List.mem_cons_self ..)
    unfold strs at h1 ⊢
    rw [List.flatMap_cons, List.length_append, List.length_cons, Nat.succ_mul]
    omega
/-- A builder, behind a call that leaves what is there. -/
theorem bld_below {B b : Nat} {bs : List Value} {w w' : World} (h : Bld B b bs w) (hb : Below w.heap.size w w') : Bld B b bs w' := by
  have hg : w.grownBy w' none := ⟨hb.os, hb.tape, hb.output, hb.size, fun k hk _ => hb.block k hk⟩
  have key : ∀ p, Lib.BuilderAt 102 5 B b p bs w → Lib.BuilderAt 102 5 B b p bs w' := fun p h => by
    have hlt := h.lt
    obtain ⟨h1, v, h2, h3, h4⟩ := h
    refine ⟨h1, v, (hb.block b hlt).trans h2, World.ownsRow.kept h3 hg ?_, h4⟩
    cases hv : v.ownBlock
    · exact .inl rfl
    · exact .inr (by simp)
  exact h.imp (key _) (key _)
theorem strB_str (s : Bs) : strB s = str s := rfl
theorem numB_num (n : Int) : numB n = num n := rfl
theorem bc_app (a b : Bs) : Lib.byteCells a ++ Lib.strCells ⟨b.toArray⟩ = Lib.byteCells (a ++ b) := by
  rw [Lib.strCells_eq, ← Lib.byteCells_append]

set_option maxHeartbeats 2000000 in
set_option maxRecDepth 100000 in
theorem strings_any (ao : Option Addr) (n cap : Nat) (xs : List Bs) (w : World) (hr : Strs w ao n xs) (hg : Ground w) (hn : xs.length ≤ 1000) (hl : ∀ x ∈ xs, x.length ≤ 16777216) :
    Calls Tryz.prog 46 #[.slice ao n cap] w fun e w' => e = .returned (.string ⟨(strs xs).toArray⟩) ∧ Below w.heap.size w w' := by
  obtain ⟨rfl, hrd⟩ := hr
  have HRD := Lib.hid hrd
  have HL := Lib.hid hl
  have HG := Lib.hid hg
  have hbound : ∀ k, k ≤ xs.length → (strs (xs.take k)).length ≤ 16777239000 := fun k hk => by
    have h1 := strs_len (xs.take k) 16777216 (fun x hx => hl x (List.mem_of_mem_take hx)) (by decide)
    rw [List.length_take] at h1
    have h2 : min k xs.length * (16777216 + 23) ≤ 1000 * (16777216 + 23) := Nat.mul_le_mul_right _ (by omega)
    omega
  have HBD := Lib.hid hbound
  clear hrd hl hg hbound
  go_enter Tryz.func46, Tryz.ntmps46
  go_wp2_with fail
  go_loopw [8] (fun i wr => ∃ k : Nat, k ≤ xs.length ∧ i = .int .i64 k ∧ Hid (Bld w.heap.size w.heap.size (Lib.byteCells (strs (xs.take k))) wr) ∧ Below w.heap.size w wr) (fun i _ => xs.length - (intOf i).toNat)
  case atStart => exact ⟨0, Nat.zero_le _, rfl, Lib.hid (Lib.fresh_isBuilder _ _ w), (Below.refl _ _).alloc (Nat.le_refl _) _⟩
  case round =>
    obtain ⟨k, hk, rfl, hbl, hb⟩ := hrel
    by_cases hlt : k < xs.length
    · obtain ⟨x, hx⟩ : ∃ x, xs[k]? = some x := ⟨_, List.getElem?_eq_getElem hlt⟩
      obtain ⟨bk, o, rfl, hc⟩ := HRD.out k x hx
      have hc := (hb.cell (p := ⟨bk, o + k, none⟩) (World.block_lt_of_cell? _ _ hc)).trans hc
      have HX := Lib.hid (take_flatMap str hx)
      have HS := Lib.hid (string_any x wr (HG.out.below hb) (by have := HL.out x (List.mem_of_getElem? hx); omega))
      have hbd := HBD.out k hk
      have hxl := str_len x (by have := HL.out x (List.mem_of_getElem? hx); omega)
      have hxl2 := HL.out x (List.mem_of_getElem? hx)
      clear hx
      go_wp2_with fail
      refine HS.out.mono ?_
      rintro e w1 ⟨rfl, hb1⟩
      have h1 := Lib.hid (bld_below hbl.out hb1)
      go_wp2_with fail
      refine (writeString_any w.heap.size w.heap.size _ _ _ h1.out (by rw [Lib.byteCells_length]; show _ + (strB x).length ≤ _; rw [strB_str]; omega) (hb.trans (hb1.mono hb.size)).size).mono ?_
      rintro e w2 ⟨rfl, h2, hb2, _⟩
      rw [bc_app, strB_str] at h2
      have h2 := Lib.hid h2
      go_wp2_with fail
      go_roundw
      case rel => exact ⟨k + 1, by omega, by go_num, by unfold strs at h2 ⊢; rw [HX.out]; exact h2, (hb.trans (hb1.mono hb.size)).trans hb2⟩
      case measure => simp [intOf]; omega
    · obtain rfl : k = xs.length := by omega
      rw [List.take_length] at hbl
      go_wp2_with fail
      refine (Tryz.Builder_String_any w.heap.size w.heap.size _ wr hbl.out hb.size).mono ?_
      rintro e w3 ⟨rfl, hb3⟩
      go_wp2_with fail
      go_ret
      exact ⟨rfl, hb.trans hb3⟩

set_option maxHeartbeats 2000000 in
theorem names_any (w : World) :
    Calls Tryz.prog 86 #[] w fun e w' => ∃ g, e = .returned (.slice (some ⟨g, 0, none⟩) 6 6) ∧ (∀ (j : Nat) (x : Bs), kindNames[j]? = some x → w'.cell? ⟨g, j, none⟩ = some (.string ⟨x.toArray⟩)) ∧ Below w.heap.size w w' := by
  go_enter Tryz.func86, Tryz.ntmps86
  go_wp2_with fail
  go_ret
  refine ⟨_, rfl, fun j x hx => ?_, (Below.refl _ w).alloc (Nat.le_refl _) _⟩
  refine tcell (heap_alloc_new w _) j _ ?_
  match j, hx with
  | 0, hx => injection hx with hx; subst hx; rfl
  | 1, hx => injection hx with hx; subst hx; rfl
  | 2, hx => injection hx with hx; subst hx; rfl
  | 3, hx => injection hx with hx; subst hx; rfl
  | 4, hx => injection hx with hx; subst hx; rfl
  | 5, hx => injection hx with hx; subst hx; rfl
  | j + 6, hx => simp [kindNames] at hx
/-- Two strings laid in a block of their own. -/
theorem strings2 (w : World) (x y : Bs) (hg : Ground w) (hx : x.length ≤ 16777216) (hy : y.length ≤ 16777216) :
    Calls Tryz.prog 46 #[.slice (some ⟨w.heap.size, 0, none⟩) 2 2] (w.alloc (.cells #[.string ⟨x.toArray⟩, .string ⟨y.toArray⟩] 9)) fun e w' => e = .returned (.string ⟨(strs [x, y]).toArray⟩) ∧ Below w.heap.size w w' := by
  have h := heap_alloc_new w (.cells #[.string ⟨x.toArray⟩, .string ⟨y.toArray⟩] 9)
  have hb := (Below.refl _ w).alloc (Nat.le_refl _) (.cells #[.string ⟨x.toArray⟩, .string ⟨y.toArray⟩] 9)
  refine (strings_any (some ⟨w.heap.size, 0, none⟩) 2 2 [x, y] _ ⟨rfl, fun j z hz => ⟨w.heap.size, 0, rfl, ?_⟩⟩ (hg.below hb) (by simp) (fun z hz => ?_)).mono ?_
  · match j, hz with
    | 0, hz => injection hz with hz; subst hz; exact tcell h 0 _ rfl
    | 1, hz => injection hz with hz; subst hz; exact tcell h 1 _ rfl
    | j + 2, hz => simp at hz
  · simp only [List.mem_cons, List.not_mem_nil, or_false] at hz
    rcases hz with rfl | rfl
    · exact hx
    · exact hy
  · rintro e w' ⟨rfl, hb2⟩
    exact ⟨rfl, hb.trans (hb2.mono hb.size)⟩
end Go.Proofs.YtbhmdcdhklgomaaGreatDoor

/-
  What a valid entry's parts are bounded by. No program.
-/
namespace Go.Proofs.YtbhmdcdhklgomaaGreatDoor.Top
open Go Go.Proofs.YtbhmdcdhklgomaaGreatDoor

theorem attrsGo_all : ∀ (l : List Attr) (o : Option Bs), attrsGo o l = 0 → ∀ a ∈ l, attrErr a = 0
  | [], _, _ => fun a h => by cases h
  | x :: l, o, h => by
    have key : attrErr x = 0 ∧ attrsGo (some x.key) l = 0 := by
      cases o with
      | none =>
        have h : (if attrErr x ≠ 0 then attrErr x else attrsGo (some x.key) l) = 0 := h
        by_cases h0 : attrErr x = 0
        · rw [if_neg (by simpa using h0)] at h
          exact ⟨h0, h⟩
        · rw [if_pos h0] at h
          exact absurd h h0
      | some k =>
        have h : (if attrErr x ≠ 0 then attrErr x else if Path.cmpE k x.key = 0 then 8 else if Path.cmpE k x.key = 1 then 14 else attrsGo (some x.key) l) = 0 := h
        by_cases h0 : attrErr x = 0
        · rw [if_neg (by simpa using h0)] at h
          split at h
          · cases h
          · split at h
            · cases h
            · exact ⟨h0, h⟩
        · rw [if_pos h0] at h
          exact absurd h h0
    intro a ha
    rcases List.mem_cons.1 ha with rfl | ha
    · exact key.1
    · exact attrsGo_all l _ key.2 a ha
theorem attr_ok {a : Attr} (h : attrErr a = 0) : a.key.length ≤ 32 ∧ a.val.length ≤ 64 := by
  unfold attrErr at h
  by_cases h0 : keyErr a.key = 0
  · rw [if_neg (by simpa using h0)] at h
    refine ⟨?_, ?_⟩
    · unfold keyErr at h0
      split at h0
      · cases h0
      · rename_i hn
        rcases Nat.lt_or_ge 32 a.key.length with h1 | h1
        · exact absurd (.inr (.inl h1)) hn
        · exact h1
    · split at h
      · cases h
      · omega
  · rw [if_pos h0] at h
    exact absurd h h0
theorem restGo_ok : ∀ (l : List Ext) (r : Int), (∀ x ∈ l, extBad x = false) → restGo r l = 0 → (l.length : Int) ≤ r
  | [], r, _, h => by
    unfold restGo at h
    split at h
    · cases h
    · rename_i h0
      simp only [Decidable.not_not] at h0
      simp [h0]
  | x :: l, r, hx, h => by
    unfold restGo at h
    split at h
    · cases h
    · have h1 := restGo_ok l _ (fun y hy => hx y (List.mem_cons_of_mem _ hy)) h
      have h2 := hx x (List.mem_cons_self ..)
      unfold extBad at h2
      simp only [Bool.or_eq_false_iff, decide_eq_false_iff_not] at h2
      simp only [List.length_cons]
      omega
theorem ext_ok {x : Ext} (h : extBad x = false) : 0 ≤ x.ses ∧ x.ses ≤ 255 ∧ 1 ≤ x.len ∧ x.len ≤ 65536 ∧ 0 ≤ x.off ∧ x.off ≤ 2147483647 := by
  unfold extBad at h
  simp only [Bool.or_eq_false_iff, decide_eq_false_iff_not] at h
  omega
theorem isDate_len {s : Bs} (h : isDate s = true) : s.length ≤ 21 := by
  unfold isDate at h
  cases ha : Lib.atoiAll s with
  | ok n =>
    rw [ha] at h
    simp only [Bool.and_eq_true, decide_eq_true_eq, beq_iff_eq] at h
    rw [← h.2]
    exact itoa_len n (by omega) (by omega)
  | range => rw [ha] at h; cases h
  | _ => rw [ha] at h; cases h
structure Valid (e : Ent) : Prop where
  kind0 : 1 ≤ e.kind
  kind1 : e.kind ≤ 6
  path : e.path.length ≤ 200
  attrs : e.attrs.length ≤ 16
  attr : ∀ a ∈ e.attrs, a.key.length ≤ 32 ∧ a.val.length ≤ 64
  target : e.target.length ≤ 200
  digest : e.digest.length ≤ 32
  size0 : 0 ≤ e.size
  size1 : e.size ≤ 65536
  exts : e.exts.length ≤ 65536
  ext : ∀ x ∈ e.exts, 0 ≤ x.ses ∧ x.ses ≤ 255 ∧ 1 ≤ x.len ∧ x.len ≤ 65536 ∧ 0 ≤ x.off ∧ x.off ≤ 2147483647
theorem valid {e : Ent} (h : entErr e = 0) : Valid e := by
  unfold entErr at h
  split at h
  · cases h
  rename_i h1
  split at h
  · rename_i h2; exact absurd h h2
  rename_i h2
  split at h
  · cases h
  rename_i h3
  split at h
  · rename_i h4; exact absurd h h4
  rename_i h4
  split at h
  · cases h
  rename_i h5
  have h2 : Path.err e.path = 0 := by simpa using h2
  have h4 : attrsErr e.attrs = 0 := by simpa using h4
  unfold attrsErr at h4
  split at h4
  · cases h4
  rename_i h6
  have ht : targetOk e = true := by
    cases hh : targetOk e with
    | true => rfl
    | false => exact absurd (.inr hh) h5
  have c1 : ¬ (e.size < 0 ∨ (if e.kind = 1 then 65536 else 0) < e.size) := fun hc => by
    rw [contentErr, if_pos hc] at h
    cases h
  rw [contentErr, if_neg c1] at h
  have c2 : ¬ (e.digest.length ≠ (if e.kind = 1 then 32 else 0)) := fun hc => by
    rw [if_pos hc] at h
    cases h
  rw [if_neg c2] at h
  have c3 : ¬ (e.kind ≠ 1 ∧ e.exts ≠ []) := fun hc => by
    rw [if_pos hc] at h
    cases h
  rw [if_neg c3] at h
  have c4 : ¬ (e.exts.any extBad = true) := fun hc => by
    rw [if_pos hc] at h
    cases h
  rw [if_neg c4] at h
  have hx : ∀ x ∈ e.exts, extBad x = false := fun x hx => by
    cases hb : extBad x with
    | false => rfl
    | true => exact absurd (List.any_eq_true.2 ⟨x, hx, hb⟩) c4
  have hr := restGo_ok e.exts e.size hx h
  have hs : e.size ≤ 65536 := by
    rcases Int.lt_or_le 65536 e.size with h8 | h8
    · exact absurd (.inr (by split <;> omega)) c1
    · exact h8
  have hs0 : 0 ≤ e.size := by
    rcases Int.lt_or_le e.size 0 with h8 | h8
    · exact absurd (.inl h8) c1
    · exact h8
  refine ⟨by omega, by omega, ?_, by omega, fun a ha => attr_ok (attrsGo_all _ _ h4 a ha), ?_, ?_, hs0, hs, by omega, fun x hx' => ext_ok (hx x hx')⟩
  · unfold Path.err at h2
    split at h2
    · cases h2
    · omega
  · unfold targetOk at ht
    split at ht
    · simp only [Bool.and_eq_true, decide_eq_true_eq] at ht
      exact ht.2
    · split at ht
      · have := isDate_len ht
        omega
      · rw [beq_iff_eq] at ht
        rw [ht]
        decide
  · have : e.digest.length = if e.kind = 1 then 32 else 0 := Decidable.not_not.1 c2
    rw [this]
    split <;> decide
end Go.Proofs.YtbhmdcdhklgomaaGreatDoor.Top

/-
  entry.Head.
-/
namespace Go.Proofs.YtbhmdcdhklgomaaGreatDoor
open Go.RowKit Top

theorem flatMap_len {α : Type} (f : α → Bs) (K : Nat) : ∀ (l : List α), (∀ a ∈ l, (f a).length ≤ K) → (l.flatMap f).length ≤ l.length * K
  | [], _ => by simp
  | a :: l, h => by
    have h1 := flatMap_len f K l (fun b hb => h b (List.mem_cons_of_mem _ hb))
    have h2 := h a (List.mem_cons_self ..)
    rw [List.flatMap_cons, List.length_append, List.length_cons, Nat.succ_mul]
    omega
/-- What a builder's write leaves: the string's cells behind those that were there, the rest as it was. -/
theorem write_any (B b : Nat) (s t : Bs) (w : World) (h : Bld B b (Lib.byteCells s) w) (hlen : s.length + t.length ≤ 140737488355328) (hBw : B ≤ w.heap.size) :
    Calls Tryz.prog 43 #[.pointer (some ⟨b, 0, none⟩), .string ⟨t.toArray⟩] w fun e w' => e = .returned (.tuple #[.int .i64 t.length, .nilIface]) ∧ (Bld B b (Lib.byteCells (s ++ t)) w' ∧ Below B w w' ∧ Kept b w w') := by
  refine (writeString_any B b (Lib.byteCells s) ⟨t.toArray⟩ w h (by rw [Lib.byteCells_length]; exact hlen) hBw).mono ?_
  rintro e w' ⟨rfl, h2, h3, h4⟩
  rw [bc_app] at h2
  exact ⟨rfl, h2, h3, h4⟩

set_option maxHeartbeats 4000000 in
set_option maxRecDepth 100000 in
theorem head_any (v : Value) (e : Ent) (w : World) (hev : EntV w v e) (hg : Ground w) (hP : e.path.length ≤ 16777216) (hT : e.target.length ≤ 16777216) :
    Calls Tryz.prog 45 #[v] w fun en w' => en = .returned (.tuple #[.string ⟨(headE e).2.toArray⟩, .int .i64 (headE e).1]) ∧ Below w.heap.size w w' := by
  have HC := Lib.hid (fun X (hX : Below w.heap.size w X) => check_any v e X (hev.below hX) (hg.below hX) hP hT)
  obtain ⟨aa, ac, ea, ec, rfl, hev1, hev2⟩ := hev
  obtain ⟨W, hW, hbW, hzW, d0, d1, d2, d3, d4, d5, d6⟩ := ebox w e (.slice aa e.attrs.length ac) (.slice ea e.exts.length ec)
  have HC := Lib.hid (HC.out W hbW)
  have hlw : w.heap.size < W.heap.size := by omega
  by_cases herr : entErr e = 0
  · have hv := valid herr
    have k1 := hv.kind0
    have k6 := hv.kind1
    obtain ⟨nm, hnm⟩ : ∃ nm, kindNames[(e.kind - 1).toNat]? = some nm := ⟨_, List.getElem?_eq_getElem (by show (e.kind - 1).toNat < 6; omega)⟩
    have HNM := Lib.hid hnm
    have HG := Lib.hid hg
    rw [herr] at HC
    generalize hkd : e.kind = kd at *
    have k2 : (0 : Int) ≤ kd - 1 := by omega
    have k3 : kd - 1 < 6 := by omega
    have k4 : kd - 1 ≤ 6 := by omega
    have hix : ∀ (g : Nat) (X : World), (Instr.indexAt 130 (.slice (some ⟨g, 0, none⟩) 6 6) (.int .i64 (kd - 1))).run Tryz.prog X = .ok (.pointer (some ⟨g, (kd - 1).toNat, none⟩)) X := fun g X => by
      simp [go_sem, Tryz.underlying130, *]
    have hwr : IntKind.i64.wrap (kd - 1) = kd - 1 := by rw [IntKind.wrap_i64]; omega
    have hwr2 : wrap64 (kd - 1) = kd - 1 := by unfold wrap64; omega
    have htn : (kd - 1).toNat = kd.toNat - 1 := by omega
    have hnl : nm.length ≤ 16777216 := by
      have : nm ∈ kindNames := List.mem_of_getElem? hnm
      simp only [kindNames, List.mem_cons, List.not_mem_nil, or_false] at this
      rcases this with rfl | rfl | rfl | rfl | rfl | rfl <;> decide
    have hnl7 : nm.length ≤ 200 := by
      have : nm ∈ kindNames := List.mem_of_getElem? hnm
      simp only [kindNames, List.mem_cons, List.not_mem_nil, or_false] at this
      rcases this with rfl | rfl | rfl | rfl | rfl | rfl <;> decide
    have hs0 : (strs [nm, e.path]).length ≤ 446 := by
      refine strs_len [nm, e.path] 200 (fun x hx => ?_) (by decide)
      simp only [List.mem_cons, List.not_mem_nil, or_false] at hx
      rcases hx with rfl | rfl
      · exact hnl7
      · exact hv.path
    have hs1 : ∀ k, ((e.attrs.take k).flatMap attrB).length ≤ 16 * 200 := fun k => by
      have h1 := flatMap_len attrB 200 (e.attrs.take k) (fun a ha => by
        have h2 := hv.attr a (List.mem_of_mem_take ha)
        exact Nat.le_trans (strs_len [a.key, a.val] 64 (fun x hx => by
          simp only [List.mem_cons, List.not_mem_nil, or_false] at hx
          rcases hx with rfl | rfl <;> omega) (by decide)) (by show 2 * (64 + 23) ≤ 200; decide))
      rw [List.length_take] at h1
      have h3 := hv.attrs
      have : min k e.attrs.length * 200 ≤ 16 * 200 := Nat.mul_le_mul_right _ (by omega)
      omega
    have hs2 : (num e.attrs.length).length ≤ 22 := by
      have := itoa_len e.attrs.length (by omega) (by have := hv.attrs; omega)
      unfold num
      simp only [List.length_append, List.length_cons, List.length_nil]
      omega
    have HE1 : Hid ((headE e).1 = 0) := by
      show _ = _
      unfold headE
      rw [if_neg (by simpa using herr)]
    have HSP : Hid (strs [nm, e.path] ++ num e.attrs.length ++ e.attrs.flatMap attrB ++ str e.target = (headE e).2) := by
      show _ = _
      unfold headE
      rw [if_neg (by simpa using herr)]
      show _ = headB e
      unfold headB
      rw [hkd, show kindNames.getD (kd - 1).toNat [] = nm by rw [List.getD, hnm]; rfl]
    have HS1 := Lib.hid hs1
    have han := hv.attrs
    have hxa := Lib.hid hv.attr
    clear hkd hv hs1
    clear hnm
    go_enter Tryz.func45, Tryz.ntmps45
    go_upto_region 1 with (fail)
    try rw [hW]
    clear hW
    go_wp2_with fail
    refine HC.out.mono ?_
    rintro en w1 ⟨rfl, hb1⟩
    have cc := fun (i : Nat) (u : Value) (h : W.cell? ⟨w.heap.size, i, none⟩ = some u) => (hb1.cell (p := ⟨w.heap.size, i, none⟩) hlw).trans h
    have d0 := cc 0 _ d0
    have d1 := cc 1 _ d1
    have d2 := cc 2 _ d2
    have d3 := cc 3 _ d3
    have hbw1 := hbW.trans (hb1.mono hbW.size)
    have hlw1 := Nat.lt_of_lt_of_le hlw hb1.size
    go_upto_region 5 with (fail)
    have hbl := Lib.fresh_isBuilder 102 5 w1
    have hb2 := hbw1.alloc hbw1.size (.cells #[.pointer none, .slice none 0 0] 102)
    have hz2 : (w1.alloc (.cells #[.pointer none, .slice none 0 0] 102)).heap.size = w1.heap.size + 1 := by simp
    have cc := fun (i : Nat) (u : Value) (h : w1.cell? ⟨w.heap.size, i, none⟩ = some u) => (((Below.refl w1.heap.size w1).alloc (Nat.le_refl _) (.cells #[.pointer none, .slice none 0 0] 102)).cell (p := ⟨w.heap.size, i, none⟩) hlw1).trans h
    have f0 := cc 0 _ d0
    have f1 := cc 1 _ d1
    clear cc
    generalize hW2 : w1.alloc (.cells #[.pointer none, .slice none 0 0] 102) = W2 at *
    have HBL := Lib.hid hbl
    clear hbl hev2 HC
    have HA := Lib.hid hev1
    clear hev1
    have hsl : ([] : Bs).length + (strs [nm, e.path]).length ≤ 140737488355328 := by rw [List.length_nil]; omega
    have hl7 : (strs [nm, e.path]).length + (numB e.attrs.length).length ≤ 140737488355328 := by rw [numB_num]; omega
    have hbl2 : Bld w1.heap.size w1.heap.size (Lib.byteCells []) W2.drew := HBL.out
    have g2 : Ground W2.drew := HG.out.below hb2.drew
    have hb12 := (Below.refl w1.heap.size w1).alloc (Nat.le_refl _) (.cells #[.pointer none, .slice none 0 0] 102)
    rw [hW2] at hb12
    clear hW2
    go_cut [] (fun wx => Hid (Bld w1.heap.size w1.heap.size (Lib.byteCells (strs [nm, e.path])) wx) ∧ Below w1.heap.size w1 wx)
    case first =>
      go_region_with (first
        | (go_at_call 86; refine (names_any _).mono ?_; rintro en w3 ⟨g, rfl, hnm, hb3⟩; have hnk := htn ▸ hnm (kd - 1).toNat nm HNM.out; have x0 := (hb3.cell (p := ⟨w.heap.size, 0, none⟩) (by show w.heap.size < W2.heap.size; omega)).trans f0; have x1 := (hb3.cell (p := ⟨w.heap.size, 1, none⟩) (by show w.heap.size < W2.heap.size; omega)).trans f1; have g3 := g2.below hb3; have h3 := bld_below hbl2 hb3; have hs3 := hb3.size)
        | (go_at_call 46; refine (strings2 _ nm e.path g3 hnl hP).mono ?_; rintro en w4 ⟨rfl, hb4⟩; have h4 := bld_below h3 hb4)
        | (go_at_call 43; refine (write_any w1.heap.size w1.heap.size [] (strs [nm, e.path]) w4 h4 hsl (by have h7 := hb4.size; have h8 : W2.heap.size ≤ w3.heap.size := hs3; omega)).mono ?_; rintro en w5 ⟨rfl, h5, hb5, _⟩))
      all_goals (
        go_wp2_with fail
        go_meet
        exact ⟨Lib.hid h5, ((hb12.drew.trans (hb3.mono hb12.size)).trans (hb4.mono (Nat.le_trans hb12.size hs3))).trans hb5⟩)
    case rest =>
      obtain ⟨hbl5, hb15⟩ := hcut
      have hbx5 := hbw1.trans (hb15.mono hbw1.size)
      have D2 := Lib.hid d2
      have D3 := Lib.hid d3
      have d2 := (hb15.cell (p := ⟨w.heap.size, 2, none⟩) hlw1).trans D2.out
      have HNB := Lib.hid (number_any e.attrs.length wc (HG.out.below hbx5) (by omega) (by omega))
      go_wp2_with fail
      refine HNB.out.mono ?_
      rintro en w6 ⟨rfl, hb6⟩
      have hbl6 := Lib.hid (bld_below hbl5.out hb6)
      have hb16 := hb15.trans (hb6.mono hb15.size)
      clear hbl5
      go_wp2_with fail
      refine (write_any w1.heap.size w1.heap.size _ (numB e.attrs.length) w6 hbl6.out hl7 hb16.size).mono ?_
      rintro en w7 ⟨rfl, hbl7, hb7, _⟩
      have hb17 := hb16.trans hb7
      rw [numB_num] at hbl7
      have HBL7 := Lib.hid hbl7
      have d2 := (hb17.cell (p := ⟨w.heap.size, 2, none⟩) hlw1).trans D2.out
      clear hbl7 hbl6 HNB hb7 hb6
      go_wp2_with fail
      go_loopw [32] (fun i wr => ∃ k : Nat, k ≤ e.attrs.length ∧ i = .int .i64 k ∧ Hid (Bld w1.heap.size w1.heap.size (Lib.byteCells (strs [nm, e.path] ++ num e.attrs.length ++ (e.attrs.take k).flatMap attrB)) wr) ∧ Below w1.heap.size w1 wr) (fun i _ => e.attrs.length - (intOf i).toNat)
      case atStart => exact ⟨0, Nat.zero_le _, rfl, by simpa using HBL7, hb17⟩
      case round =>
        obtain ⟨k, hk, rfl, hbl, hb⟩ := hrel
        by_cases hlt : k < e.attrs.length
        · obtain ⟨x, hx⟩ : ∃ x, e.attrs[k]? = some x := ⟨_, List.getElem?_eq_getElem hlt⟩
          have hbw := hbw1.trans (hb.mono hbw1.size)
          obtain ⟨bk, o, rfl, hcell⟩ := (HA.out.below hbw).get hx
          have c0 := hcell 0 _ rfl
          have c1 := hcell 1 _ rfl
          rw [Nat.add_zero] at c0
          have HX := Lib.hid (take_flatMap attrB hx)
          have hxl := hxa.out x (List.mem_of_getElem? hx)
          have hl2 := HS1.out k
          have hl3 : (attrB x).length ≤ 174 := strs_len [x.key, x.val] 64 (fun y hy => by
            simp only [List.mem_cons, List.not_mem_nil, or_false] at hy
            rcases hy with rfl | rfl <;> omega) (by decide)
          clear hcell hx
          obtain ⟨V, hV, hbV, hzV, b0, b1⟩ := abox wr x
          have hlV : wr.heap.size < V.heap.size := by omega
          clear hzV
          have hblV := Lib.hid (bld_below hbl.out hbV)
          have hbV1 := hb.trans (hbV.mono hb.size)
          have HS2 := Lib.hid (strings2 V x.key x.val (HG.out.below (hbw1.trans (hbV1.mono hbw1.size))) (by omega) (by omega))
          go_upto_region 10 with (fail)
          try rw [hV]
          clear hV
          go_wp2_with fail
          refine HS2.out.mono ?_
          rintro en v1 ⟨rfl, hbv1⟩
          have hbl1 := Lib.hid (bld_below hblV.out hbv1)
          have hbv11 := hbV1.trans (hbv1.mono hbV1.size)
          go_wp2_with fail
          refine (write_any w1.heap.size w1.heap.size _ (attrB x) v1 hbl1.out (by simp only [List.length_append]; omega) hbv11.size).mono ?_
          rintro en v2 ⟨rfl, hbl2, hbv2, _⟩
          rw [List.append_assoc, ← HX.out] at hbl2
          have hbl2 := Lib.hid hbl2
          go_wp2_with fail
          go_roundw
          case rel => exact ⟨k + 1, by omega, by go_num, hbl2, hbv11.trans hbv2⟩
          case measure => simp [intOf]; omega
        · obtain rfl : k = e.attrs.length := by omega
          have d3 := (hb.cell (p := ⟨w.heap.size, 3, none⟩) hlw1).trans D3.out
          have hbw := hbw1.trans (hb.mono hbw1.size)
          have HST := Lib.hid (string_any e.target wr (HG.out.below hbw) (by omega))
          have hl2 := HS1.out e.attrs.length
          have hl3 := str_len e.target (by omega)
          have hfin : strs [nm, e.path] ++ num e.attrs.length ++ (e.attrs.take e.attrs.length).flatMap attrB ++ str e.target = (headE e).2 := by
            rw [List.take_length]
            exact HSP.out
          have HF := Lib.hid hfin
          clear hfin
          go_wp2_with fail
          refine HST.out.mono ?_
          rintro en v1 ⟨rfl, hbv1⟩
          have hbl1 := Lib.hid (bld_below hbl.out hbv1)
          have hbv11 := hb.trans (hbv1.mono hb.size)
          go_wp2_with fail
          refine (write_any w1.heap.size w1.heap.size _ (strB e.target) v1 hbl1.out (by rw [strB_str]; simp only [List.length_append]; omega) hbv11.size).mono ?_
          rintro en v2 ⟨rfl, hbl2, hbv2, _⟩
          rw [strB_str, HF.out] at hbl2
          have hbl2 := Lib.hid hbl2
          have hbv12 := hbv11.trans hbv2
          go_wp2_with fail
          refine (Tryz.Builder_String_any w1.heap.size w1.heap.size _ v2 hbl2.out hbv12.size).mono ?_
          rintro en v3 ⟨rfl, hbv3⟩
          go_wp2_with fail
          go_ret2
          exact ⟨by rw [HE1.out]; rfl, hbw1.trans ((hbv12.trans hbv3).mono hbw1.size)⟩
  · have HE : Hid (headE e = (entErr e, [])) := by
      show _ = _
      exact if_pos herr
    have hne : (entErr e != 0) = true := bne_iff_ne.2 herr
    generalize headE e = res at *
    generalize entErr e = z at *
    go_enter Tryz.func45, Tryz.ntmps45
    go_upto_region 1 with (fail)
    try rw [hW]
    clear hW
    go_wp2_with fail
    refine HC.out.mono ?_
    rintro en w1 ⟨rfl, hb1⟩
    go_wp2_with fail
    go_ret2
    exact ⟨by rw [HE.out]; rfl, hbW.trans (hb1.mono hbW.size)⟩
end Go.Proofs.YtbhmdcdhklgomaaGreatDoor
