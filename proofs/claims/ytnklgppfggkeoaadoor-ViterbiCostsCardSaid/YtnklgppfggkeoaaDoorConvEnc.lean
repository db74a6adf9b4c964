/-
  The walk of convcode.Encode.
-/
import Derived.Test.YtnklgppfggkeoaaDoorConvOut
import Derived.Test.YtnklgppfggkeoaaDoorCellsPlain
import Derived.Shelf.Strings.SlTrimAscii
import Derived.Shelf.Strings.BuilderK
namespace Go.Proofs.YtnklgppfggkeoaaDoor
open Go.RowKit Go.Shelf
attribute [local go_sem] Oper.semAt_some

theorem contains_bit (c : UInt8) : [48, 49].contains c = Conv.isBit c := by
  simp only [List.contains, List.elem, Conv.isBit]
  cases (c == 48) <;> cases (c == 49) <;> rfl
theorem trim_bits (s : ByteArray) : (⟨(Lib.trimS s.data.toList [48, 49]).toArray⟩ : ByteArray).toList.isEmpty = Conv.ok s.data.toList := by
  rw [Lib.toList_data, Bool.eq_iff_iff, List.isEmpty_iff]
  show Lib.trimS s.data.toList [48, 49] = [] ↔ _
  rw [Cells.trim_nil]
  unfold Conv.ok
  simp only [contains_bit]

theorem Bld.grown {w w' : World} {B b : Nat} {bs : List Value} {row : Option Nat} (h : Bld B b bs w) (hg : w.grownBy w' row) (hr : ∀ r, row = some r → ∃ o : Obj, w.heap[r]? = some o ∧ o.isCells = false) : Bld B b bs w' := by
  have keep : ∀ (k : Nat) cs e m, w.heap[k]? = some (.cells cs e m) → w'.heap[k]? = some (.cells cs e m) := fun k cs e m hk => by
    rw [hg.block k (Array.getElem?_eq_some_iff.1 hk).1 ?_, hk]
    intro e1
    obtain ⟨o, ho, hc⟩ := hr k e1.symm
    rw [hk] at ho
    cases ho
    cases hc
  have go : ∀ p, Lib.BuilderAt 67 5 B b p bs w → Lib.BuilderAt 67 5 B b p bs w' := by
    rintro p ⟨h1, v, hh, hown, hne⟩
    refine ⟨h1, v, keep _ _ _ _ hh, ⟨hown.1, ?_⟩, hne⟩
    rcases hown.2 with hn | ⟨g, cap, cur, rfl, h2, hg2, rest⟩
    · exact .inl hn
    · exact .inr ⟨g, cap, cur, rfl, h2, keep _ _ _ _ hg2, rest⟩
  rcases h with h | h
  · exact .inl (go _ h)
  · exact .inr (go _ h)
theorem Bld.block {w : World} {B b : Nat} {bs : List Value} (h : Bld B b bs w) : ∃ cs m, w.heap[b]? = some (.cells cs 67 m) := by
  rcases h with ⟨_, v, hh, _⟩ | ⟨_, v, hh, _⟩ <;> exact ⟨_, _, hh⟩
theorem keeps_of {w w' : World} {B b : Nat} {bs : List Value} (h : Bld B b bs w) (hk : Kept b w w') (hs : w.heap.size ≤ w'.heap.size) : KeepsOthers w w' := by
  obtain ⟨cs, m, hb⟩ := h.block
  refine ⟨hs, fun k o hko ho => hk k o hko ?_ ?_⟩
  · intro e
    injection e with e
    subst e
    rw [hb] at hko
    cases hko
    cases ho
  · rintro c fz rfl
    cases ho

theorem outputs_any (s : ByteArray) (w : World) :
    Calls Tryd.prog 33 #[.string s] w fun e w' => e = .returned (.func (.func 49) #[] #[.pointer (some ⟨w.heap.size, 0, none⟩)]) ∧ w' = w.alloc (.cells #[.string s] 9) := by
  go_enter Tryd.func33, Tryd.ntmps33
  go_wp2_with fail
  go_ret
  exact ⟨rfl, rfl⟩

theorem encode_long (s : ByteArray) (w : World) (hs : 65536 < s.size) (hs2 : s.size ≤ 9223372036854775807) :
    Calls Tryd.prog 21 #[.string s] w fun e w' => e = .returned (.tuple #[.string ⟨#[]⟩, .int .i64 6]) ∧ Below w.heap.size w w' := by
  go_enter Tryd.func21, Tryd.ntmps21
  go_wp2_with fail
  go_ret2
  exact ⟨rfl, Below.refl _ _⟩

set_option maxHeartbeats 1000000 in
theorem encode_bad (s : ByteArray) (w : World) (hs : s.size ≤ 65536) (hok : Conv.ok s.data.toList = false) :
    Calls Tryd.prog 21 #[.string s] w fun e w' => e = .returned (.tuple #[.string ⟨#[]⟩, .int .i64 3]) ∧ Below w.heap.size w w' := by
  have hT := Any.strings_Trim_laid Tryd.lays160 (by kernel_rfl) s ⟨#[48, 49]⟩ w (by omega) (by decide) (ascii_of_all (by decide))
  have HT := Lib.hid hT
  clear hT
  go_enter Tryd.func21, Tryd.ntmps21
  go_wp2_with fail
  refine HT.out.mono ?_
  rintro e w1 ⟨rfl, hb⟩
  have hE : (⟨(Lib.trimS s.data.toList (⟨#[48, 49]⟩ : ByteArray).data.toList).toArray⟩ : ByteArray).toList.isEmpty = Conv.ok s.data.toList := trim_bits s
  generalize (⟨(Lib.trimS s.data.toList (⟨#[48, 49]⟩ : ByteArray).data.toList).toArray⟩ : ByteArray) = X at *
  clear HT
  rw [hok] at hE
  have HH := Lib.hid hok
  clear hok
  go_wp2_with fail
  go_ret2
  exact ⟨rfl, hb⟩

set_option maxHeartbeats 2000000 in
set_option maxRecDepth 100000 in
theorem encode_ok (s : ByteArray) (w : World) (hs : s.size ≤ 65536) (hok : Conv.ok s.data.toList = true) :
    Calls Tryd.prog 21 #[.string s] w fun e w' => e = .returned (.tuple #[.string ⟨(Conv.code s.data.toList).toArray⟩, .int .i64 0]) ∧ Below w.heap.size w w' := by
  have hT := Any.strings_Trim_laid Tryd.lays160 (by kernel_rfl) s ⟨#[48, 49]⟩ w (by omega) (by decide) (ascii_of_all (by decide))
  have HT := Lib.hid hT
  clear hT
  have HOK := Lib.hid hok
  refine (callsIn_wide (n := 5)).1 ?_
  refine callsIn_of_wp_marks Tryd.func21 rfl trivial ?_ rfl
  simp only [Tryd.ntmps21, List.size_toArray, List.length_cons, List.length_nil, Nat.reduceAdd, Nat.reduceSub, Array.replicate_succ, Array.replicate_zero, List.push_toArray, List.append_toArray, List.nil_append, List.cons_append]
  gi_wp2
  refine ⟨trivial, ?_⟩
  refine (callsIn_wide.2 HT.out).mono ?_
  rintro e w1 ⟨rfl, hb⟩
  have hE : (⟨(Lib.trimS s.data.toList (⟨#[48, 49]⟩ : ByteArray).data.toList).toArray⟩ : ByteArray).toList.isEmpty = Conv.ok s.data.toList := trim_bits s
  generalize (⟨(Lib.trimS s.data.toList (⟨#[48, 49]⟩ : ByteArray).data.toList).toArray⟩ : ByteArray) = X at *
  clear HT
  rw [hok] at hE
  clear hok
  gi_wp2
  refine ⟨trivial, ?_⟩
  refine (callsIn_wide.2 (outputs_any s _)).mono ?_
  rintro e w2 ⟨rfl, rfl⟩
  gi_wp2
  have hb2 : Below w1.heap.size w1 ((w1.alloc (Obj.cells #[Value.pointer none, Value.slice none 0 0] 67)).alloc (Obj.cells #[Value.string s] 9)) := ((Below.refl _ w1).alloc (Nat.le_refl _) _).alloc (by simp) _
  have hc : ((w1.alloc (Obj.cells #[Value.pointer none, Value.slice none 0 0] 67)).alloc (Obj.cells #[Value.string s] 9)).cell? ⟨w1.heap.size + 1, 0, none⟩ = some (.string s) := by
    have h := heap_alloc_new (w1.alloc (Obj.cells #[Value.pointer none, Value.slice none 0 0] 67)) (Obj.cells #[Value.string s] 9)
    rw [World.size_alloc] at h
    unfold World.cell?
    rw [h]
    rfl
  have hbl0 : Bld w1.heap.size w1.heap.size [] ((w1.alloc (Obj.cells #[Value.pointer none, Value.slice none 0 0] 67)).alloc (Obj.cells #[Value.string s] 9)) :=
    Bld.grown (Lib.fresh_isBuilder _ _ w1) (World.grownBy_alloc _ _ none) (fun r e => by cases e)
  have hsz : ((w1.alloc (Obj.cells #[Value.pointer none, Value.slice none 0 0] 67)).alloc (Obj.cells #[Value.string s] 9)).heap.size = w1.heap.size + 2 := by simp
  generalize (w1.alloc (Obj.cells #[Value.pointer none, Value.slice none 0 0] 67)).alloc (Obj.cells #[Value.string s] 9) = w2 at *
  refine wpIn_rangeFunc_ownF rfl (by omega) (gf := 49) (lb := #[.pointer (some ⟨w1.heap.size + 1, 0, none⟩)]) rfl trivial (enters_of Tryd.func49 (by kernel_rfl) rfl)
    (out_stops s HOK.out hs _ (by omega) (w1.heap.size + 1) w2 (by omega) hc) walksK_t walksK_b (Below.refl _ _) (fun _ => rfl)
    (fun pre W => Bld w1.heap.size w1.heap.size (bytesL (Conv.flat pre)) W ∧ Below w1.heap.size w1 W)
    (fun _ _ _ => False)
    (OwnFrom.and (fun pre A B row h hg hr => Bld.grown h hg fun r e => (hr r e).2) (ownFrom_below (Nat.le_refl _) (by omega)))
    (fun _ _ _ _ _ hs _ _ => hs)
    ⟨hbl0, hb2⟩
    (fun x => { tmps := #[.string s, undef, .string ⟨#[]⟩, .int .i64 0, .pointer (some ⟨w1.heap.size, 0, none⟩), .string ⟨#[Conv.ch x.1, Conv.ch x.2]⟩, .bool (decide (65536 < (s.size : Int))), .string s, .int .i64 s.size, .bool (decide (65536 < (s.size : Int))), .bool false, .string s, .string X, .bool false, .string s, .func (.func 49) #[] #[.pointer (some ⟨w1.heap.size + 1, 0, none⟩)], .string ⟨#[Conv.ch x.1, Conv.ch x.2]⟩, undef, undef, undef], defers := [] }) ?assign ?body ?done ?stop
  case assign =>
    intro l x W K hK
    gi_wp2
    exact hK
  case body =>
    rintro l pre x W ⟨hbl, hB⟩ hlen
    have hl : (bytesL (Conv.flat pre)).length + (⟨#[Conv.ch x.1, Conv.ch x.2]⟩ : ByteArray).size ≤ 140737488355328 := by
      rw [bytesL_length, Conv.flat_length]
      have : (⟨#[Conv.ch x.1, Conv.ch x.2]⟩ : ByteArray).size = 2 := rfl
      omega
    have hsnoc : bytesL (Conv.flat pre) ++ Lib.strCells ⟨#[Conv.ch x.1, Conv.ch x.2]⟩ = bytesL (Conv.flat (pre ++ [x])) := by
      rw [Conv.flat_snoc]
      simp [bytesL, Lib.strCells]
    gi_wp2
    refine ⟨trivial, ?_⟩
    refine (CallsIn.inRound l (callsIn_wide.2 (writeString_any w1.heap.size w1.heap.size _ _ W hbl hl hB.size))).mono ?_
    rintro e w3 ⟨rfl, hbl3, hb3, hk3⟩
    rw [hsnoc] at hbl3
    have hko := keeps_of hbl hk3 hb3.size
    gi_wp2
    exact ⟨hko, hko.walks, hbl3, hB.trans hb3⟩
  case done =>
    rintro D xs W hD rfl ⟨hbl, hB⟩ hK
    gi_wp2
    refine ⟨trivial, ?_⟩
    refine (callsIn_wide.2 (Any.Builder_String_any_k Tryd.lays169 Tryd.Builder_Extra_169 w1.heap.size w1.heap.size _ W (Lib.IsBuilderF.of hbl) hB.size)).mono ?_
    rintro e w3 ⟨rfl, _, hb3, hk3⟩
    have hK3 : w3.heap[D]? = some (.deferred (some [])) := hk3 D _ hK (fun e => by injection e with e; omega) (fun c fz e => by cases e)
    have hB3 := hB.trans hb3
    gi_wp2
    refine ⟨by simp, .inl ⟨_, _, rfl, run_takeDeferred hK3, ?_⟩⟩
    exact ⟨_, results_tmp2 rfl _ _ _, rfl, hb.trans ((hB3.trans (belowK_b (w := w1) (Nat.le_refl _) w3 D _ _ (by omega) hK3 rfl rfl)).mono hb.size)⟩
  case stop =>
    rintro D c pre W _ _ h _
    exact h.elim
end Go.Proofs.YtnklgppfggkeoaaDoor
