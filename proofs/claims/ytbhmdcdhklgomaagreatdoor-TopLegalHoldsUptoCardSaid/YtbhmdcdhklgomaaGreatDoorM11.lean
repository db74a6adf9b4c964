/-
  strings.Join. After the library's own text.
-/
import Derived.Test.YtbhmdcdhklgomaaGreatDoorM10
import Derived.Laws.Cover1
namespace Go.Proofs.YtbhmdcdhklgomaaGreatDoor
open Go.RowKit

set_option maxHeartbeats 1000000 in
theorem join_none (ao : Option Addr) (c : Nat) (sep : ByteArray) (w : World) :
    Calls Tryz.prog 105 #[.slice ao 0 c, .string sep] w fun e w' => e = .returned (.string ⟨#[]⟩) ∧ w' = w := by
  go_enter Tryz.func105, Tryz.ntmps105
  go_wp2
  go_ret
  exact ⟨rfl, rfl⟩
set_option maxHeartbeats 1000000 in
theorem join_one (bk o c : Nat) (x sep : ByteArray) (w : World) (hc : w.cell? ⟨bk, o, none⟩ = some (.string x)) :
    Calls Tryz.prog 105 #[.slice (some ⟨bk, o, none⟩) 1 c, .string sep] w fun e w' => e = .returned (.string x) ∧ w' = w := by
  go_enter Tryz.func105, Tryz.ntmps105
  go_wp2
  go_ret
  exact ⟨rfl, rfl⟩

set_option maxHeartbeats 4000000 in
set_option maxRecDepth 100000 in
theorem join_many (bk o c : Nat) (xs : List ByteArray) (sep : ByteArray) (w : World)
    (hcells : ∀ (j : Nat) x, xs[j]? = some x → w.cell? ⟨bk, o + j, none⟩ = some (.string x))
    (hbk : bk < w.heap.size) (h2 : 2 ≤ xs.length) (hN : xs.length ≤ 140737488355328) (hcap : xs.length ≤ c)
    (hlen : (Lib.join (xs.map (·.data.toList)) sep.data.toList).length ≤ 140737488355328) :
    Calls Tryz.prog 105 #[.slice (some ⟨bk, o, none⟩) xs.length c, .string sep] w fun e w' => e = .returned (.string ⟨(Lib.join (xs.map (·.data.toList)) sep.data.toList).toArray⟩) ∧ Below w.heap.size w w' := by
  have HC := Lib.hid hcells
  clear hcells
  -- the lengths
  obtain ⟨x0, r, hxs⟩ : ∃ x0 r, xs = x0 :: r := by
    cases xs with
    | nil => simp at h2
    | cons a t => exact ⟨a, t, rfl⟩
  have hjl : sep.size * (xs.length - 1) + Lib.lens (xs.map (·.data.toList)) ≤ 140737488355328 := by
    have := Lib.join_length x0.data.toList (r.map (·.data.toList)) sep.data.toList
    rw [hxs] at hlen ⊢
    simp only [List.map_cons] at hlen ⊢
    rw [this, List.length_map] at hlen
    rw [Lib.size_eq, List.length_cons, Nat.add_sub_cancel]
    exact hlen
  have hmul : sep.size * (xs.length - 1) ≤ 140737488355328 := by omega
  generalize hM : sep.size * (xs.length - 1) = M at hjl hmul
  have hcast : ((xs.length : Int) - 1) = ((xs.length - 1 : Nat) : Int) := by omega
  have hlt : sep.size < 9223372036854775807 / (xs.length - 1) := by
    have : sep.size + 1 ≤ 9223372036854775807 / (xs.length - 1) := by
      rw [Nat.le_div_iff_mul_le (by omega), Nat.add_mul, hM]
      omega
    omega
  have hdv : ¬ (9223372036854775807 / ((xs.length : Int) - 1) ≤ (sep.size : Int)) := by
    have e : (9223372036854775807 : Int) / ((xs.length - 1 : Nat) : Int) = ((9223372036854775807 / (xs.length - 1) : Nat) : Int) := IntWalk.up_div (x := 9223372036854775807) rfl rfl
    rw [hcast, e]
    generalize 9223372036854775807 / (xs.length - 1) = q at hlt
    omega
  have hprod : wrap64 ((sep.size : Int) * ((xs.length : Int) - 1)) = (M : Int) := by
    have e : (sep.size : Int) * ((xs.length - 1 : Nat) : Int) = ((sep.size * (xs.length - 1) : Nat) : Int) := IntWalk.up_mul rfl rfl
    rw [hcast, e, hM]
    exact IntWalk.wrap64_in _ ⟨by omega, by omega⟩
  have hM0 : sep.size = 0 → M = 0 := fun h => by rw [← hM, h, Nat.zero_mul]
  clear hlt hcast
  have hne0 : ((xs.length : Int) == 0) = false := beq_eq_false_iff_ne.2 (by omega)
  have hne1 : ((xs.length : Int) == 1) = false := beq_eq_false_iff_ne.2 (by omega)
  have Hxs := Lib.hid hxs
  have Hlen := Lib.hid hlen
  clear hxs hlen
  go_enter Tryz.func105, Tryz.ntmps105
  go_wp2_with fail
  all_goals (
    go_loop [5, 41] (fun n i => ∃ k : Nat, k ≤ xs.length ∧ i = .int .i64 k ∧ n = .int .i64 ((M + Lib.lens ((xs.map (·.data.toList)).take k) : Nat) : Int)) (fun _ i => xs.length - (intOf i).toNat)
    case atStart => exact ⟨0, Nat.zero_le _, rfl, by first | (simp [Lib.lens]; done) | (have := hM0 (by omega); simp [Lib.lens, this])⟩
    case round =>
      obtain ⟨k, hk, rfl, rfl⟩ := hrel
      by_cases hkn : k < xs.length
      · obtain ⟨x, hx⟩ : ∃ x, xs[k]? = some x := ⟨xs[k], List.getElem?_eq_getElem hkn⟩
        have hc := HC.out k x hx
        have hstep := Lib.lens_take_succ (xs.map (·.data.toList)) k x.data.toList (by simp [hx])
        have hbound : Lib.lens ((xs.map (·.data.toList)).take (k + 1)) ≤ Lib.lens (xs.map (·.data.toList)) := Lib.lens_take_le _ _
        rw [← Lib.size_eq] at hstep
        generalize hA1 : Lib.lens ((xs.map (·.data.toList)).take (k + 1)) = A1 at hstep hbound
        generalize Lib.lens ((xs.map (·.data.toList)).take k) = A0 at hstep
        have HA1 := Lib.hid hA1
        clear hA1
        go_wp2
        exact ⟨⟨k + 1, by omega, by go_num, by rw [HA1.out]; refine congrArg _ ?_; omega⟩, by simp [intOf]; omega⟩
      · have hke : k = xs.length := by omega
        subst hke
        have hall : (xs.map (·.data.toList)).take xs.length = xs.map (·.data.toList) := List.take_of_length_le (by simp)
        rw [hall]
        generalize hT : Lib.lens (xs.map (·.data.toList)) = T at hjl
        have HT := Lib.hid hT
        clear hT hall
        go_wp2_with fail
        have hMT : ((M : Int) + (T : Int)) = ((M + T : Nat) : Int) := by omega
        rw [hMT]
        refine (Grow_fresh w.heap.size w.heap.size (M + T) _ (Nat.le_refl _) (heap_alloc_new w _) (by simp) (by omega)).mono ?_
        rintro e w1 ⟨rfl, h1, hb1⟩
        have hb1' : Below w.heap.size w w1 := ((Below.refl w.heap.size w).alloc (Nat.le_refl _) _).trans hb1
        -- the first element
        have hx0 : xs[0]? = some x0 := by rw [Hxs.out]; rfl
        have hc0 : w1.cell? ⟨bk, o, none⟩ = some (.string x0) := by
          rw [hb1'.cell (p := ⟨bk, o, none⟩) hbk]
          exact HC.out 0 x0 hx0
        have H1 := Lib.hid (Or.inr h1 : Lib.IsBuilder 102 5 w.heap.size w.heap.size [] w1)
        have Hb1 := Lib.hid hb1'
        have hBw1 : w.heap.size ≤ w1.heap.size := hb1'.size
        clear h1 hb1 hb1' hMT
        -- what the builder holds behind k rounds of the second loop; and that it is never longer than the whole
        have hwhole : Lib.join (xs.map (·.data.toList)) sep.data.toList = x0.data.toList ++ Lib.joinTail sep.data.toList (r.map (·.data.toList)) := by
          rw [Hxs.out, List.map_cons, Lib.join_cons]
        have hCle : ∀ k, (x0.data.toList ++ Lib.joinTail sep.data.toList ((r.map (·.data.toList)).take k)).length ≤ 140737488355328 := fun k => by
          have h1 := Hlen.out
          rw [hwhole, List.length_append] at h1
          have h2 := Lib.joinTail_take_le sep.data.toList (r.map (·.data.toList)) k
          rw [List.length_append]
          omega
        have HCle := Lib.hid hCle
        have Hwhole := Lib.hid hwhole
        clear hCle hwhole
        go_wp2_with fail
        refine (writeString_any w.heap.size w.heap.size [] x0 w1 H1.out (by have := HCle.out 0; simp [Lib.joinTail] at this ⊢; omega) hBw1).mono ?_
        rintro e w2 ⟨rfl, h2', hb2, _⟩
        have hstart : ([] : List Value) ++ Lib.strCells x0 = Lib.byteCells (x0.data.toList ++ Lib.joinTail sep.data.toList ((r.map (·.data.toList)).take 0)) := by
          simp [Lib.joinTail, Lib.strCells_eq]
        rw [hstart] at h2'
        have H2 := Lib.hid (h2' : Lib.IsBuilder 102 5 w.heap.size w.heap.size _ w2)
        have Hb2 := Lib.hid (Hb1.out.trans hb2)
        clear h2' hb2 hstart
        have hrl : r.length = xs.length - 1 := by rw [Hxs.out]; simp
        go_wp2_with fail
        go_loopw [65] (fun i wr => ∃ k : Nat, k ≤ r.length ∧ i = .int .i64 k ∧ Hid (Lib.IsBuilder 102 5 w.heap.size w.heap.size (Lib.byteCells (x0.data.toList ++ Lib.joinTail sep.data.toList ((r.map (·.data.toList)).take k))) wr) ∧ Hid (Below w.heap.size w wr)) (fun i _ => r.length - (intOf i).toNat)
        case atStart => exact ⟨0, Nat.zero_le _, rfl, H2, Hb2⟩
        case round =>
          obtain ⟨k, hk', rfl, HB, HW⟩ := hrel
          by_cases hkr : k < r.length
          · obtain ⟨y, hy⟩ : ∃ y, r[k]? = some y := ⟨r[k], List.getElem?_eq_getElem hkr⟩
            have hxy : xs[k + 1]? = some y := by rw [Hxs.out]; simpa using hy
            have hcy : wr.cell? ⟨bk, o + 1 + k, none⟩ = some (.string y) := by
              rw [HW.out.cell (p := ⟨bk, o + 1 + k, none⟩) hbk, show o + 1 + k = o + (k + 1) by omega]
              exact HC.out (k + 1) y hxy
            have hBw : w.heap.size ≤ wr.heap.size := HW.out.size
            have hnext : Lib.byteCells (x0.data.toList ++ Lib.joinTail sep.data.toList ((r.map (·.data.toList)).take k)) ++ Lib.strCells sep ++ Lib.strCells y = Lib.byteCells (x0.data.toList ++ Lib.joinTail sep.data.toList ((r.map (·.data.toList)).take (k + 1))) := by
              rw [Lib.joinTail_take_succ sep.data.toList (r.map (·.data.toList)) k y.data.toList (by simp [hy]), Lib.strCells_eq, Lib.strCells_eq, ← Lib.byteCells_append, ← Lib.byteCells_append, List.append_assoc, List.append_assoc, List.append_assoc]
            have hl1 := HCle.out (k + 1)
            rw [Lib.joinTail_take_succ sep.data.toList (r.map (·.data.toList)) k y.data.toList (by simp [hy])] at hl1
            simp only [List.length_append, ← Lib.size_eq] at hl1
            have hl0 : (Lib.byteCells (x0.data.toList ++ Lib.joinTail sep.data.toList ((r.map (·.data.toList)).take k))).length = x0.size + (Lib.joinTail sep.data.toList ((r.map (·.data.toList)).take k)).length := by
              rw [Lib.byteCells_length, List.length_append, ← Lib.size_eq]
            generalize (Lib.joinTail sep.data.toList ((r.map (·.data.toList)).take k)).length = J at hl0 hl1
            have Hn := Lib.hid hnext
            clear hnext hy hxy
            go_wp2_with fail
            refine (writeString_any w.heap.size w.heap.size _ sep wr HB.out (by rw [hl0]; omega) hBw).mono ?_
            rintro e w3 ⟨rfl, h3, hb3, _⟩
            have hBw3 : w.heap.size ≤ w3.heap.size := Nat.le_trans hBw hb3.size
            have H3 := Lib.hid h3
            have Hb3 := Lib.hid hb3
            clear h3 hb3
            go_wp2_with fail
            refine (writeString_any w.heap.size w.heap.size _ y w3 H3.out (by rw [List.length_append, hl0, Lib.strCells_length]; omega) hBw3).mono ?_
            rintro e w4 ⟨rfl, h4, hb4, _⟩
            rw [Hn.out] at h4
            have H4 := Lib.hid (h4 : Lib.IsBuilder 102 5 w.heap.size w.heap.size _ w4)
            have Hb4 := Lib.hid ((HW.out.trans Hb3.out).trans hb4)
            clear h4 hb4
            go_wp2
            exact ⟨⟨k + 1, by omega, by go_num, H4, Hb4⟩, by simp [intOf]; omega⟩
          · have hke : k = r.length := by omega
            subst hke
            have hfull : (r.map (·.data.toList)).take r.length = r.map (·.data.toList) := List.take_of_length_le (by simp)
            have hB' := HB.out
            rw [hfull, ← Hwhole.out] at hB'
            have hBw : w.heap.size ≤ wr.heap.size := HW.out.size
            go_wp2_with fail
            refine (Tryz.Builder_String_any w.heap.size w.heap.size _ wr hB' hBw).mono ?_
            rintro e w5 ⟨rfl, hb5⟩
            have Hb5 := Lib.hid (HW.out.trans hb5)
            clear hb5 hB'
            go_wp2
            go_ret
            exact ⟨rfl, Hb5.out⟩)

theorem map_strs (xs : List (List UInt8)) : (xs.map fun x => (⟨x.toArray⟩ : ByteArray)).map (·.data.toList) = xs := by
  rw [List.map_map]
  exact (List.map_congr_left fun x _ => rfl).trans (List.map_id xs)
/-- strings.Join at one byte. -/
theorem join_any (ao : Option Addr) (n c : Nat) (xs : List (List UInt8)) (q : UInt8) (w : World) (hn : n = xs.length) (hao : ∀ j x, xs[j]? = some x → ∃ bk o, ao = some ⟨bk, o, none⟩ ∧ w.cell? ⟨bk, o + j, none⟩ = some (.string ⟨x.toArray⟩))
    (hN : xs.length ≤ 140737488355328) (hcap : xs.length ≤ c) (hlen : (Sep.jn q xs).length ≤ 140737488355328) :
    Calls Tryz.prog 105 #[.slice ao n c, .string ⟨#[q]⟩] w fun e w' => e = .returned (.string ⟨(Sep.jn q xs).toArray⟩) ∧ Below w.heap.size w w' := by
  subst hn
  match xs, hao, hN, hcap, hlen with
  | [], _, _, _, _ => exact (join_none _ c _ w).mono fun e w' ⟨he, hw⟩ => ⟨he, hw ▸ Below.refl _ _⟩
  | [x], hao, _, _, _ =>
    obtain ⟨bk, o, rfl, hc⟩ := hao 0 x rfl
    refine (join_one bk o c ⟨x.toArray⟩ _ w hc).mono fun e w' ⟨he, hw⟩ => ⟨?_, hw ▸ Below.refl _ _⟩
    rw [he]
    simp [Sep.jn, Sep.tl]
  | x :: y :: r, hao, hN, hcap, hlen =>
    obtain ⟨bk, o, rfl, hc⟩ := hao 0 x rfl
    have h := join_many bk o c ((x :: y :: r).map fun x => ⟨x.toArray⟩) ⟨#[q]⟩ w (fun j z hz => by
      rw [List.getElem?_map] at hz
      obtain ⟨z', hz', rfl⟩ := Option.map_eq_some_iff.1 hz
      obtain ⟨bk', o', e, hc'⟩ := hao j z' hz'
      injection e with e
      injection e with e1 e2
      subst e1 e2
      exact hc') (World.block_lt_of_cell? _ _ hc) (by simp) (by simpa using hN) (by simpa using hcap) (by rw [map_strs]; exact Nat.le_trans (Nat.le_of_eq (congrArg List.length (Sep.jn_eq (q := q) (x :: y :: r)))) hlen)
    rw [map_strs, List.length_map] at h
    refine h.mono fun e w' ⟨he, hw⟩ => ⟨?_, hw⟩
    rw [he]
    show Ending.returned (.string ⟨(Lib.join (x :: y :: r) [q]).toArray⟩) = _
    rw [Sep.jn_eq]
theorem Own.strs {w : World} {B n c : Nat} {ao : Option Addr} {xs : List (List UInt8)} (h : Own w B 9 (.slice ao n c) (strsL xs)) (m : Nat) :
    ∀ j x, (xs.take m)[j]? = some x → ∃ bk o, ao = some ⟨bk, o, none⟩ ∧ w.cell? ⟨bk, o + j, none⟩ = some (.string ⟨x.toArray⟩) := by
  intro j x hx
  have hx' : xs[j]? = some x := by
    rw [List.getElem?_take] at hx
    split at hx
    · exact hx
    · cases hx
  obtain ⟨g, rfl⟩ := h.addr (by rw [strsL_length]; have := (List.getElem?_eq_some_iff.1 hx').1; omega)
  exact ⟨g, 0, rfl, by rw [Nat.zero_add]; exact h.cell j _ (strsL_get xs j x hx')⟩
theorem Own.cap {w : World} {B n c : Nat} {E : TypeId} {ao : Option Addr} {xs : List Value} (h : Own w B E (.slice ao n c) xs) : n ≤ c := by
  rcases h.2 with ⟨e, hn⟩ | ⟨g, cap, cur, e, _, _, h1, h2⟩
  · injection e with e1 e2 e3
    omega
  · injection e with e1 e2 e3
    omega
end Go.Proofs.YtbhmdcdhklgomaaGreatDoor

/-
  Slices of strings that are only read; slices.Equal over them.
-/
namespace Go.Proofs.YtbhmdcdhklgomaaGreatDoor
open Go.RowKit

/-- The slice at ao of length n reads as the strings xs. -/
def Strs (w : World) (ao : Option Addr) (n : Nat) (xs : List (List UInt8)) : Prop :=
  n = xs.length ∧ ∀ (j : Nat) (x : List UInt8), xs[j]? = some x → ∃ bk o, ao = some ⟨bk, o, none⟩ ∧ w.cell? ⟨bk, o + j, none⟩ = some (.string ⟨x.toArray⟩)
section
variable {w w' : World} {B n c : Nat} {ao : Option Addr} {xs : List (List UInt8)}
theorem Own.read (h : Own w B 9 (.slice ao n c) (strsL xs)) : Strs w ao n xs := by
  refine ⟨by rw [h.len, strsL_length], fun j x hx => ?_⟩
  obtain ⟨g, rfl⟩ := h.addr (by rw [strsL_length]; have := (List.getElem?_eq_some_iff.1 hx).1; omega)
  exact ⟨g, 0, rfl, by rw [Nat.zero_add]; exact h.cell j _ (strsL_get xs j x hx)⟩
theorem Strs.below (h : Strs w ao n xs) (hb : Below w.heap.size w w') : Strs w' ao n xs := by
  refine ⟨h.1, fun j x hx => ?_⟩
  obtain ⟨bk, o, e, hc⟩ := h.2 j x hx
  exact ⟨bk, o, e, (hb.cell (World.block_lt_of_cell? _ _ hc)).trans hc⟩
theorem Strs.take (h : Strs w ao n xs) (m : Nat) (hm : m ≤ n) : Strs w ao m (xs.take m) := by
  refine ⟨by rw [List.length_take]; have := h.1; omega, fun j x hx => h.2 j x ?_⟩
  rw [List.getElem?_take] at hx
  split at hx
  · exact hx
  · cases hx
theorem Strs.drop {bk o m : Nat} (h : Strs w (some ⟨bk, o, none⟩) n xs) (k : Nat) (hm : m = n - k) (_hk : k ≤ n) : Strs w (some ⟨bk, o + k, none⟩) m (xs.drop k) := by
  refine ⟨by rw [List.length_drop, ← h.1, hm], fun j x hx => ?_⟩
  rw [List.getElem?_drop] at hx
  obtain ⟨bk', o', e, hc⟩ := h.2 (k + j) x hx
  injection e with e
  injection e with e1 e2
  subst e1 e2
  exact ⟨bk, o + k, rfl, by rw [Nat.add_assoc]; exact hc⟩
theorem Strs.nil (w : World) (ao : Option Addr) : Strs w ao 0 [] := ⟨rfl, fun j x h => by simp at h⟩
end

theorem str_beq (x y : List UInt8) : ((⟨x.toArray⟩ : ByteArray).toList == (⟨y.toArray⟩ : ByteArray).toList) = (x == y) := by
  rw [Lib.toList_data, Lib.toList_data]
theorem take_beq {xs ys : List (List UInt8)} {k : Nat} {x y : List UInt8} (hx : xs[k]? = some x) (hy : ys[k]? = some y) : (xs.take (k + 1) == ys.take (k + 1)) = ((xs.take k == ys.take k) && (x == y)) := by
  obtain ⟨h1, h2⟩ := List.getElem?_eq_some_iff.1 hx
  obtain ⟨h3, h4⟩ := List.getElem?_eq_some_iff.1 hy
  rw [List.take_add_one, List.take_add_one, hx, hy, Bool.eq_iff_iff, Bool.and_eq_true, beq_iff_eq, beq_iff_eq, beq_iff_eq]
  constructor
  · intro h
    have := List.append_inj h (by rw [List.length_take, List.length_take]; omega)
    exact ⟨this.1, by simpa using this.2⟩
  · rintro ⟨h, rfl⟩
    rw [h]
theorem beq_of_take {xs ys : List (List UInt8)} {k : Nat} (h : (xs.take k == ys.take k) = false) : (xs == ys) = false := by
  rw [beq_eq_false_iff_ne] at h ⊢
  intro e
  exact h (by rw [e])
theorem beq_len {xs ys : List (List UInt8)} (h : xs.length ≠ ys.length) : (xs == ys) = false := by
  rw [beq_eq_false_iff_ne]
  intro e
  exact h (by rw [e])

set_option maxHeartbeats 1000000 in
theorem equal_any (a1 a2 : Option Addr) (n1 c1 n2 c2 : Nat) (xs ys : List (List UInt8)) (w : World) (h1 : Strs w a1 n1 xs) (h2 : Strs w a2 n2 ys) (hn : n1 ≤ 9223372036854775807) (hn2 : n2 ≤ 9223372036854775807) :
    Calls Tryz.prog 72 #[.slice a1 n1 c1, .slice a2 n2 c2] w fun e w' => e = .returned (.bool (xs == ys)) ∧ ∃ q, w' = w.drewN q := by
  obtain ⟨rfl, h1⟩ := h1
  obtain ⟨rfl, h2⟩ := h2
  obtain ⟨E, hE⟩ : ∃ E, (xs == ys) = E := ⟨_, rfl⟩
  have HE := Lib.hid hE
  rw [hE]
  clear hE
  by_cases hl : xs.length = ys.length
  rotate_left
  · have hne : ((xs.length : Int) != (ys.length : Int)) = true := by rw [bne_iff_ne]; omega
    go_enter Tryz.func72, Tryz.ntmps72
    go_wp2_with fail
    go_ret
    refine ⟨?_, 0, rfl⟩
    rw [← HE.out, beq_len hl]
    rfl
  have hne : ((xs.length : Int) != (ys.length : Int)) = false := by rw [bne_eq_false_iff_eq]; omega
  have HL := Lib.hid hl
  clear hl
  have H1 := Lib.hid h1
  have H2 := Lib.hid h2
  clear h1 h2
  go_enter Tryz.func72, Tryz.ntmps72
  go_wp2_with fail
  go_loopw [13] (fun i wr => ∃ k m : Nat, k ≤ xs.length ∧ i = .int .i64 k ∧ Hid ((xs.take k == ys.take k) = true) ∧ wr = w.drewN m) (fun i _ => xs.length - (intOf i).toNat)
  case atStart => exact ⟨0, 0, Nat.zero_le _, rfl, by show _ = true; simp, rfl⟩
  case round =>
    obtain ⟨k, m, hk, rfl, hok, rfl⟩ := hrel
    by_cases hlt : k < xs.length
    · have hlt2 : k < ys.length := by rw [← HL.out]; exact hlt
      obtain ⟨x, hx⟩ : ∃ x, xs[k]? = some x := ⟨_, List.getElem?_eq_getElem hlt⟩
      obtain ⟨y, hy⟩ : ∃ y, ys[k]? = some y := ⟨_, List.getElem?_eq_getElem hlt2⟩
      obtain ⟨b1, o1, rfl, hc1⟩ := H1.out k x hx
      obtain ⟨b2, o2, rfl, hc2⟩ := H2.out k y hy
      have HS := Lib.hid (take_beq hx hy)
      have HB := Lib.hid (str_beq x y)
      generalize (⟨x.toArray⟩ : ByteArray) = X at hc1 HB
      generalize (⟨y.toArray⟩ : ByteArray) = Y at hc2 HB
      clear hx hy
      cases hb : (X.toList == Y.toList)
      · go_wp2_with fail
        go_quiet (fail)
        go_wp2_with fail
        go_ret
        refine ⟨?_, m + nq, by simp [World.drewN_drewN]⟩
        rw [← HE.out, beq_of_take (k := k + 1) (by rw [HS.out, hok.out, ← HB.out, hb]; rfl)]
        rfl
      · go_wp2_with fail
        go_quiet (fail)
        go_wp2_with fail
        go_roundw
        case rel => exact ⟨k + 1, _, by omega, by go_num, by show _ = true; rw [HS.out, hok.out, ← HB.out, hb]; rfl, rfl⟩
        case measure => simp [intOf]; omega
    · obtain rfl : k = xs.length := by omega
      have h := hok.out
      rw [List.take_length, HL.out, List.take_length] at h
      have H := Lib.hid h
      clear h
      go_wp2_with fail
      go_ret
      refine ⟨?_, _, rfl⟩
      rw [← HE.out, H.out]
      rfl
end Go.Proofs.YtbhmdcdhklgomaaGreatDoor

/-
  The walks of Split, Parent, Join, Under and Compare of paths.
-/
namespace Go.Proofs.YtbhmdcdhklgomaaGreatDoor
open Go.RowKit

/-- The components of a valid path; nothing of another. -/
def Path.comps (l : List UInt8) : List (List UInt8) := if Path.err l = 0 then Path.els l else []
theorem Path.comps_le (s : ByteArray) : (Path.comps s.data.toList).length ≤ s.size + 1 := by
  unfold Path.comps
  split
  · exact els_size s
  · simp

set_option maxHeartbeats 1000000 in
theorem psplit_any (s : ByteArray) (w : World) (hs : s.size < 4294967281) :
    Calls Tryz.prog 71 #[.string s] w fun e w' => ∃ v, e = .returned (.tuple #[v, .int .i64 (Path.err s.data.toList)]) ∧ Own w' w.heap.size 9 v (strsL (Path.comps s.data.toList)) ∧ Below w.heap.size w w' := by
  have HC : Hid (Path.comps s.data.toList = if Path.err s.data.toList = 0 then Path.els s.data.toList else []) := Lib.hid rfl
  have hck := fun w => pcheck_any s w hs
  have hel := fun w => elements_any s w hs
  generalize Path.comps s.data.toList = cs at HC ⊢
  generalize Path.err s.data.toList = E at HC hck ⊢
  by_cases h : E = 0
  · subst h
    rw [if_pos rfl] at HC
    go_enter Tryz.func71, Tryz.ntmps71
    go_wp2_with fail
    refine (hck _).mono ?_
    rintro e w' ⟨rfl, hb⟩
    go_wp2_with fail
    refine (hel _).mono ?_
    rintro e w2 ⟨v, rfl, ho, hb2⟩
    go_wp2_with fail
    go_ret2
    exact ⟨v, rfl, by rw [HC.out]; exact ho.more hb.size, bchain hb hb2⟩
  · rw [if_neg h] at HC
    have hne : (E != 0) = true := bne_iff_ne.2 h
    clear h
    go_enter Tryz.func71, Tryz.ntmps71
    go_wp2_with fail
    refine (hck _).mono ?_
    rintro e w' ⟨rfl, hb⟩
    go_wp2_with fail
    go_ret2
    exact ⟨_, rfl, by rw [HC.out]; exact Own.nil _ _ _, hb⟩

theorem jn_small {l : List UInt8} (h : Path.err l = 0) (k : Nat) : (Path.jn ((Path.els l).take k)).length ≤ 200 := by
  have h1 : (Path.jn ((Path.els l).take k)).length ≤ (Path.jn (Path.els l)).length := Sep.jn_length_take (Path.els l) k
  rw [show Path.jn (Path.els l) = l from Sep.jn_els l] at h1
  have := (Path.err_ok_iff.1 h).1
  omega

set_option maxHeartbeats 1000000 in
theorem parent_any (s : ByteArray) (w : World) (hs : s.size < 4294967281) :
    Calls Tryz.prog 95 #[.string s] w fun e w' => e = .returned (.tuple #[.string ⟨(Path.parentV s.data.toList).toArray⟩, .int .i64 (Path.parentE s.data.toList)]) ∧ Below w.heap.size w w' := by
  have hsp := psplit_any s w hs
  by_cases h : Path.err s.data.toList = 0
  rotate_left
  · have e1 : Path.parentV s.data.toList = [] := by rw [Path.parentV, if_pos h]
    have e2 : Path.parentE s.data.toList = Path.err s.data.toList := by rw [Path.parentE, if_pos h]
    rw [e1, e2]
    clear e1 e2
    generalize Path.err s.data.toList = E at hsp h ⊢
    have hne : (E != 0) = true := bne_iff_ne.2 h
    clear h
    go_enter Tryz.func95, Tryz.ntmps95
    go_wp2_with fail
    refine hsp.mono ?_
    rintro e w' ⟨v, rfl, ho, hb⟩
    go_wp2_with fail
    go_ret2
    exact ⟨rfl, hb⟩
  · have e1 : Path.parentV s.data.toList = Path.jn ((Path.els s.data.toList).take ((Path.els s.data.toList).length - 1)) := by rw [Path.parentV, if_neg (by omega), List.dropLast_eq_take]
    have e2 : Path.parentE s.data.toList = if s.data.toList = [] then 1 else 0 := by rw [Path.parentE, if_neg (by omega)]
    have e3 : Path.comps s.data.toList = Path.els s.data.toList := by rw [Path.comps, if_pos h]
    have hnil := Sep.els_eq_nil (q := 47) (l := s.data.toList)
    have hz := els_size s
    have hsm := jn_small h ((Path.els s.data.toList).length - 1)
    rw [h, e3] at hsp
    rw [e1, e2]
    clear e1 e2 e3 h
    by_cases hn : s.data.toList = []
    · have e4 : Path.els s.data.toList = [] := hnil.2 hn
      rw [e4] at hsp ⊢
      rw [if_pos hn]
      clear hnil hn e4 hz hsm
      go_enter Tryz.func95, Tryz.ntmps95
      go_wp2_with fail
      refine hsp.mono ?_
      rintro e w' ⟨v, rfl, ho, hb⟩
      obtain ⟨ao, cap, rfl, _⟩ := ho.form
      go_wp2_with fail
      go_ret2
      exact ⟨rfl, hb⟩
    · rw [if_neg hn]
      have hne : Path.els s.data.toList ≠ [] := fun e => hn (hnil.1 e)
      clear hnil hn
      generalize Path.els s.data.toList = xs at *
      have hlen : 0 < xs.length := List.length_pos_iff.2 hne
      clear hne
      go_enter Tryz.func95, Tryz.ntmps95
      go_wp2_with fail
      refine hsp.mono ?_
      rintro e w' ⟨v, rfl, ho, hb⟩
      obtain ⟨ao, cap, rfl, hao⟩ := ho.form
      obtain ⟨g, rfl⟩ := hao (by rw [strsL_length]; exact hlen)
      rw [strsL_length] at ho ⊢
      have hcap := ho.cap
      have hj := fun w1 (h1 : Strs w1 (some ⟨g, 0, none⟩) (xs.length - 1) (xs.take (xs.length - 1))) => join_any (some ⟨g, 0, none⟩) (xs.length - 1) cap (xs.take (xs.length - 1)) 47 w1 h1.1 h1.2 (by rw [List.length_take]; omega) (by rw [List.length_take]; omega) (Nat.le_trans hsm (by decide))
      have hc1 : ((xs.length : Int) - 1) = ((xs.length - 1 : Nat) : Int) := by omega
      go_wp2_with fail
      refine (hj _ (ho.read.take _ (by omega))).mono ?_
      rintro e w2 ⟨rfl, hb2⟩
      go_wp2_with fail
      go_ret2
      exact ⟨rfl, bchain hb hb2⟩

end Go.Proofs.YtbhmdcdhklgomaaGreatDoor
