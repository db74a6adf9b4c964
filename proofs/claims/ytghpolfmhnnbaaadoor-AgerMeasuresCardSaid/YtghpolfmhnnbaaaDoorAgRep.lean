/-
  ager.replace, steleref59.pieces.
-/
import Derived.Test.YtghpolfmhnnbaaaDoorAgSlices
import Derived.IntWalk
namespace Go.Proofs.YtghpolfmhnnbaaaDoor
open Go.RowKit

/-- l[i+1:] reads as what is behind i. -/
def tailA (ao : Option Addr) (cap i : Nat) : Option Addr := if cap = i then ao else ao.map (·.add i)
theorem Strs.tail {w : World} {ao : Option Addr} {n cap : Nat} {xs : List (List UInt8)} (h : Strs w ao n xs) (i : Nat) (hi : i ≤ n) (hc : n ≤ cap) : Strs w (tailA ao cap i) (n - i) (xs.drop i) := by
  unfold tailA
  refine ⟨by rw [List.length_drop, ← h.1], fun j x hj => ?_⟩
  rw [List.getElem?_drop] at hj
  obtain ⟨bk, o, e, hcell⟩ := h.2 (i + j) x hj
  have hlt := (List.getElem?_eq_some_iff.1 hj).1
  have := h.1
  rw [if_neg (by omega), e]
  exact ⟨bk, o + i, by simp [Addr.add_lit], by rw [Nat.add_assoc]; exact hcell⟩

set_option maxHeartbeats 1000000 in
set_option maxRecDepth 100000 in
theorem three_call (ao bo : Option Addr) (cap bc i n m : Nat) (ps bs : List (List UInt8)) (w : World) (hr : Strs w ao n ps) (hb : Strs w bo m bs) (hi : i < n) (hc : n ≤ cap) (hn : n ≤ 65536) (hm : m ≤ 65536) :
    Calls Tryd.prog 44 #[.slice (some ⟨w.heap.size, 0, none⟩) 3 3] (w.alloc (.cells #[.slice ao i cap, .slice bo m bc, .slice (tailA ao cap (i + 1)) (n - (i + 1)) (cap - (i + 1))] 24)) fun e w' => ∃ v, e = .returned v ∧ Own w' (w.alloc (.cells #[.slice ao i cap, .slice bo m bc, .slice (tailA ao cap (i + 1)) (n - (i + 1)) (cap - (i + 1))] 24)).heap.size 9 v (strsL (rep ps i bs)) ∧ Below (w.alloc (.cells #[.slice ao i cap, .slice bo m bc, .slice (tailA ao cap (i + 1)) (n - (i + 1)) (cap - (i + 1))] 24)).heap.size (w.alloc (.cells #[.slice ao i cap, .slice bo m bc, .slice (tailA ao cap (i + 1)) (n - (i + 1)) (cap - (i + 1))] 24)) w' := by
  have hnl := hr.1
  have hml := hb.1
  have e1 : (ps.take i).length = i := by rw [List.length_take]; omega
  have e2 : (ps.drop (i + 1)).length = n - (i + 1) := by rw [List.length_drop]; omega
  have hbw := (Below.refl _ w).alloc (Nat.le_refl _) (.cells #[.slice ao i cap, .slice bo m bc, .slice (tailA ao cap (i + 1)) (n - (i + 1)) (cap - (i + 1))] 24)
  have hk := heap_alloc_new w (.cells #[.slice ao i cap, .slice bo m bc, .slice (tailA ao cap (i + 1)) (n - (i + 1)) (cap - (i + 1))] 24)
  have h1 := (hr.take i (by omega)).below hbw
  have h2 := hb.below hbw
  have h3 := (hr.tail (i + 1) (by omega) hc).below hbw
  have hT : Three (w.alloc (.cells #[.slice ao i cap, .slice bo m bc, .slice (tailA ao cap (i + 1)) (n - (i + 1)) (cap - (i + 1))] 24)) w.heap.size [(ao, cap, ps.take i), (bo, bc, bs), (tailA ao cap (i + 1), cap - (i + 1), ps.drop (i + 1))] := by
    intro k q hq
    rcases k with _ | _ | _ | k
    · obtain rfl := Option.some.inj hq
      exact ⟨blk_cell hk 0 _ (by show some (Value.slice ao i cap) = some (Value.slice ao (ps.take i).length cap); rw [e1]), by show Strs _ ao (ps.take i).length _; rw [e1]; exact h1⟩
    · obtain rfl := Option.some.inj hq
      exact ⟨blk_cell hk 1 _ (by show some (Value.slice bo m bc) = some (Value.slice bo bs.length bc); rw [hml]), by show Strs _ bo bs.length _; rw [← hml]; exact h2⟩
    · obtain rfl := Option.some.inj hq
      exact ⟨blk_cell hk 2 _ (by show some (Value.slice (tailA ao cap (i + 1)) (n - (i + 1)) (cap - (i + 1))) = some (Value.slice (tailA ao cap (i + 1)) (ps.drop (i + 1)).length (cap - (i + 1))); rw [e2]), by show Strs _ (tailA ao cap (i + 1)) (ps.drop (i + 1)).length _; rw [e2]; exact h3⟩
    · simp at hq
  have hcat : catQ [(ao, cap, ps.take i), (bo, bc, bs), (tailA ao cap (i + 1), cap - (i + 1), ps.drop (i + 1))] = rep ps i bs := by simp [catQ, rep]
  have h := concat_any w.heap.size 3 _ _ hT (by simp) (by rw [hcat]; unfold rep; rw [List.length_append, List.length_append, e1, e2]; omega)
  rw [hcat] at h
  exact h

set_option maxHeartbeats 2000000 in
set_option maxRecDepth 100000 in
theorem replace_any (ao bo : Option Addr) (n cap m bc i : Nat) (ps bs : List (List UInt8)) (w : World) (hr : Strs w ao n ps) (hb : Strs w bo m bs) (hi : i < n) (hc : n ≤ cap) (hn : n ≤ 65536) (hm : m ≤ 65536) (hcap : cap ≤ 9223372036854775807) :
    Calls Tryd.prog 30 #[.slice ao n cap, .int .i64 i, .slice bo m bc] w fun e w' => ∃ v, e = .returned v ∧ Own w' w.heap.size 9 v (strsL (rep ps i bs)) ∧ Below w.heap.size w w' := by
  have HR := Lib.hid hr
  have HB := Lib.hid hb
  have l1 : i ≤ cap := by omega
  have l2 : i + 1 ≤ n := by omega
  have l3 : i + 1 ≤ cap := by omega
  have e0 : 0 ≤ (i : Int) + 1 := by omega
  have l4 : (i : Int) + 1 ≤ (n : Int) := by omega
  have l5 : (i : Int) + 1 ≤ (cap : Int) := by omega
  have e1 : IntKind.i64.wrap ((i : Int) + 1) = (i : Int) + 1 := IntWalk.i64_in _ (by omega)
  have e2 : ((i : Int) + 1).toNat = i + 1 := by omega
  clear hr hb
  go_enter Tryd.func30, Tryd.ntmps30
  go_wp2_with fail
  go_still_tail 8, (by kernel_rfl)
  change wpList _ _ _ _ _ w.drew
  have hb2 : Below w.heap.size w w.drew := (Below.refl _ w).drew
  generalize w.drew = w2 at *
  have hs2 := hb2.size
  have HR2 := Lib.hid (HR.out.below hb2)
  have HB2 := Lib.hid (HB.out.below hb2)
  go_wp2_with fail
  · have hce : cap = i + 1 := by assumption
    have hcat := three_call ao bo (i + 1) bc i n m ps bs w2 HR2.out HB2.out hi (by omega) hn hm
    clear hce
    simp only [tailA, if_pos, Nat.sub_self] at hcat
    refine hcat.mono ?_
    rintro e w3 ⟨v, rfl, ho, hb3⟩
    go_wp2_with fail
    go_ret
    exact ⟨_, rfl, ho.more (by simp; omega), (hb2.alloc hs2 _).trans (hb3.mono (by simp; omega))⟩
  · have hce : ¬ cap = i + 1 := by assumption
    have hcat := three_call ao bo cap bc i n m ps bs w2 HR2.out HB2.out hi hc hn hm
    simp only [tailA, if_neg hce] at hcat
    refine hcat.mono ?_
    rintro e w3 ⟨v, rfl, ho, hb3⟩
    go_wp2_with fail
    go_ret
    exact ⟨_, rfl, ho.more (by simp; omega), (hb2.alloc hs2 _).trans (hb3.mono (by simp; omega))⟩
end Go.Proofs.YtghpolfmhnnbaaaDoor
