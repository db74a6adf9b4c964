/-
  Interleaving changes neither the distance of two cell strings nor the number of unreadable cells. Plain lists.
-/
import Derived.Test.YtknppmfnmbkebaaDoorCellsPlain
import Derived.Test.YtknppmfnmbkebaaDoorItInterPlain
namespace Go.Proofs.YtknppmfnmbkebaaDoor.It.Inter

theorem order_mem (n r : Nat) (hr : 0 < r) (x : Nat) : x ∈ order n r ↔ x ∈ List.range n := by
  rw [List.mem_range]
  constructor
  · intro h
    obtain ⟨k, hk⟩ := List.mem_iff_getElem?.1 h
    have hkn : k < n := by
      have := (List.getElem?_eq_some_iff.1 hk).1
      rwa [order_length n r hr] at this
    obtain ⟨i, hi, _, e⟩ := order_lt n r k hr hkn
    rw [hk] at e
    rw [Option.some.inj e]
    exact hi
  · intro h
    exact List.mem_of_getElem? (order_idx n r x hr h)
theorem order_nodup (n r : Nat) (hr : 0 < r) : (order n r).Nodup := by
  refine List.pairwise_iff_getElem.2 fun i j hi hj hij e => ?_
  rw [order_length n r hr] at hi hj
  obtain ⟨a, ha, ea, ga⟩ := order_lt n r i hr hi
  obtain ⟨b, hb, eb, gb⟩ := order_lt n r j hr hj
  rw [List.getElem?_eq_getElem (by rw [order_length n r hr]; exact hi)] at ga
  rw [List.getElem?_eq_getElem (by rw [order_length n r hr]; exact hj)] at gb
  have ga' := Option.some.inj ga
  have gb' := Option.some.inj gb
  rw [ga', gb'] at e
  subst e
  omega
theorem order_perm (n r : Nat) (hr : 0 < r) : (order n r).Perm (List.range n) :=
  (List.perm_ext_iff_of_nodup (order_nodup n r hr) List.nodup_range).2 (order_mem n r hr)
theorem range_getD (s : List UInt8) : (List.range s.length).map (fun i => s.getD i 0) = s := by
  apply List.ext_getElem?
  intro i
  rw [List.getElem?_map]
  by_cases h : i < s.length
  · rw [List.getElem?_range h]
    simp [List.getD_eq_getElem?_getD, List.getElem?_eq_getElem h]
  · rw [List.getElem?_eq_none (by simpa using h), List.getElem?_eq_none (by simpa using h)]
    rfl
theorem inter_perm (s : List UInt8) (r : Nat) (hr : 0 < r) : (inter s r).Perm s := by
  have h := (order_perm s.length r hr).map (fun i => s.getD i 0)
  rw [range_getD] at h
  exact h
theorem unread_inter (s : List UInt8) (r : Nat) (hr : 0 < r) : Cells.unread (inter s r) = Cells.unread s := (inter_perm s r hr).count_eq 63
theorem ok_inter (s : List UInt8) (r : Nat) (hr : 0 < r) (h : Cells.ok s = true) : Cells.ok (inter s r) = true := by
  unfold Cells.ok at h ⊢
  rw [List.all_eq_true] at h ⊢
  exact fun c hc => h c ((inter_perm s r hr).mem_iff.1 hc)
theorem zip_map2 (l : List Nat) (f g : Nat → UInt8) : (l.map f).zip (l.map g) = l.map fun i => (f i, g i) := by
  induction l with
  | nil => rfl
  | cons x l ih => simp [ih]
theorem dist_order (l : List Nat) (f g : Nat → UInt8) : Cells.dist (l.map f) (l.map g) = l.countP fun i => Cells.differ (f i) (g i) := by
  unfold Cells.dist
  rw [zip_map2, ← List.countP_eq_length_filter, List.countP_map]
  rfl
theorem dist_inter (a b : List UInt8) (r : Nat) (hr : 0 < r) (hl : a.length = b.length) : Cells.dist (inter a r) (inter b r) = Cells.dist a b := by
  have h : Cells.dist a b = Cells.dist ((List.range a.length).map fun i => a.getD i 0) ((List.range a.length).map fun i => b.getD i 0) := by
    rw [range_getD, hl, range_getD]
  rw [h, dist_order, inter, inter, ← hl, dist_order]
  exact (order_perm a.length r hr).countP_eq _
theorem ok_take (l : List UInt8) (n : Nat) (h : Cells.ok l = true) : Cells.ok (l.take n) = true := by
  unfold Cells.ok at h ⊢
  rw [List.all_eq_true] at h ⊢
  exact fun c hc => h c (List.mem_of_mem_take hc)
end Go.Proofs.YtknppmfnmbkebaaDoor.It.Inter
