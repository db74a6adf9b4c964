/-
  The iterator of convcode.Encode, and Encode itself.
-/
import Derived.Test.YtnklgppfggkeoaaDoorConv
import Derived.RangeFuncNested
import Derived.RangeFuncBound
import Derived.RangeFuncCalls
import Derived.RangeFuncLeaves
import Derived.Shelf.Abstract
import Derived.Shelf.RegionOpen
import Derived.OwnWalkIn
import Derived.TacticsInMore
import Derived.LoopNIn
import Derived.LoopIn
import Derived.WalkSmall
namespace Go.Proofs.YtnklgppfggkeoaaDoor
open Go.RowKit Go.Shelf
attribute [local go_sem] Oper.semAt_some

namespace Conv
theorem bits_ch (s : List UInt8) (h : ok s = true) : (bitsOf s).map ch = s := by
  unfold ok at h
  rw [List.all_eq_true] at h
  unfold bitsOf
  rw [List.map_map]
  exact (List.map_congr_left fun c hc => ch_tb (h c hc)).trans (List.map_id s)
theorem outs_take_succ (p q : Bool) (l : List Bool) (k : Nat) (hk : k < l.length) : (outs p q l).take (k + 1) = (outs p q l).take k ++ [((l[k] ^^ (after p q (l.take k)).1) ^^ (after p q (l.take k)).2, l[k] ^^ (after p q (l.take k)).2)] := by
  induction l generalizing p q k with
  | nil => simp at hk
  | cons u l ih =>
    cases k with
    | zero => rfl
    | succ k =>
      have h := ih u p k (by simpa using hk)
      simp only [outs, List.take_succ_cons, List.cons_append, after, List.getElem_cons_succ]
      rw [h]
theorem after_take_succ (p q : Bool) (l : List Bool) (k : Nat) (hk : k < l.length) : after p q (l.take (k + 1)) = (l[k], (after p q (l.take k)).1) := by
  rw [List.take_succ_eq_append_getElem hk, after_append]
  rfl
end Conv

theorem grown_iterAt (w : World) (k : Nat) (s : ByteArray) (pos : Nat) : w.grownBy (w.iterAt k s pos) (some k) := by
  refine ⟨rfl, rfl, rfl, by rw [Lib.iterAt_size]; exact Nat.le_refl _, fun j _ hne => Lib.iterAt_other w k j s pos fun e => hne (by rw [e])⟩
theorem grown_iter (w : World) (s : ByteArray) (pos : Nat) : w.grownBy (w.iter s pos) none := by
  refine ⟨rfl, rfl, rfl, by simp [World.iter], fun j hj _ => ?_⟩
  exact Below.heap_alloc w _ j hj

set_option maxHeartbeats 2000000 in
set_option maxRecDepth 100000 in
theorem out_stops (s : ByteArray) (hok : Conv.ok s.data.toList = true) (hs : s.size ≤ 65536) (n : Nat) (hn : 1 ≤ n) (Bb : Nat) (w : World) (hB : Bb < w.heap.size) (hc : w.cell? ⟨Bb, 0, none⟩ = some (.string s)) :
    SeqStopsK Fence.wide n Tryd.prog 49 #[.pointer (some ⟨Bb, 0, none⟩)] (fun x : Bool × Bool => #[Value.string ⟨#[Conv.ch x.1, Conv.ch x.2]⟩]) KeepsWalks
      (fun xs => xs = Conv.outs false false (Conv.bitsOf s.data.toList ++ [false, false])) (fun _ => True) (s.size + 2) w := fun l J Jx W hW hJ hJx hY h0 => by
  have hc' := (hW.cell (p := ⟨Bb, 0, none⟩) hB).trans hc
  have zS : (s ++ ⟨#[48, 48]⟩ : ByteArray).size = s.size + 2 := ByteArray.size_append
  have dS : (s ++ ⟨#[48, 48]⟩ : ByteArray).data.toList = (Conv.bitsOf s.data.toList ++ [false, false]).map Conv.ch := by
    rw [ByteArray.data_append, Array.toList_append, List.map_append, Conv.bits_ch _ hok]
    rfl
  have lB : (Conv.bitsOf s.data.toList ++ [false, false]).length = s.size + 2 := by
    simp [Conv.bitsOf, Array.length_toList]
  generalize Conv.bitsOf s.data.toList ++ [false, false] = BS at *
  refine callsIn_of_wp Tryd.func49 rfl trivial ?_ rfl
  simp only [Tryd.ntmps49, List.size_toArray, List.length_cons, List.length_nil, Nat.reduceAdd, Nat.reduceSub, Array.replicate_succ, Array.replicate_zero, List.push_toArray, List.append_toArray, List.nil_append, List.cons_append]
  gi_wp2
  generalize s ++ ⟨#[48, 48]⟩ = S at *
  have HL := Lib.hid lB
  have asc : ∀ k (hk : k < S.size) (hb : k < BS.length), S[k].toNat = 48 + Conv.bn BS[k] := fun k hk hb => by
    have e : S.data.toList[k]? = some (Conv.ch BS[k]) := by rw [dS, List.getElem?_map, List.getElem?_eq_getElem hb]; rfl
    rw [List.getElem?_eq_getElem (by rw [Array.length_toList]; exact hk)] at e
    have e2 : S[k] = Conv.ch BS[k] := Option.some.inj e
    rw [e2]
    cases BS[k] <;> rfl
  have ASC := Lib.hid asc
  clear asc dS
  gi_loopw [3] (fun sv wr => ∃ k : Nat, k ≤ BS.length ∧ sv = .int .i64 (Conv.st (Conv.after false false (BS.take k)).1 (Conv.after false false (BS.take k)).2) ∧ J ((Conv.outs false false BS).take k) wr ∧ wr.heap[W.heap.size]? = some (.stringIter S k) ∧ W.heap.size + 1 ≤ wr.heap.size)
    (fun _ wr => BS.length - wr.iterPos W.heap.size)
  case atStart => exact ⟨0, Nat.zero_le _, rfl, hJ _ W _ none h0 (grown_iter W S 0) (fun r e => by cases e), World.alloc_heap_new W _, by simp [World.iter]⟩
  case round =>
    obtain ⟨k, hk, rfl, hJs, hit, hsz⟩ := hrel
    by_cases hlt : k < BS.length
    · have hltS : k < S.size := by omega
      have hch := ASC.out k hltS hlt
      have hnx : ∀ ty, (Instr.next (.pointer (some ⟨W.heap.size, 0, none⟩)) true ty).run Tryd.prog wr = .ok (.tuple #[.bool true, .int .i64 k, .int .i32 S[k].toNat]) (wr.iterAt W.heap.size S (k + 1)) := fun ty =>
        Lib.run_next_ascii_at wr W.heap.size S k ty hit hltS (by rw [hch]; cases BS[k] <;> decide)
      have hJ1 := hJ _ wr (wr.iterAt W.heap.size S (k + 1)) (some W.heap.size) hJs (grown_iterAt _ _ _ _) (fun r e => by cases e; exact ⟨Nat.le_refl _, _, hit, rfl⟩)
      have hit1 := Lib.iterAt_heap wr W.heap.size S k (k + 1) hit
      have hsz1 := Lib.iterAt_size wr W.heap.size S (k + 1)
      have hts := Conv.outs_take_succ false false BS k hlt
      have has := Conv.after_take_succ false false BS k hlt
      generalize wr.iterAt W.heap.size S (k + 1) = W1 at *
      obtain ⟨fn, tmps, assign, body, hy, hR⟩ := hY _ ((BS[k] ^^ (Conv.after false false (BS.take k)).1) ^^ (Conv.after false false (BS.take k)).2, BS[k] ^^ (Conv.after false false (BS.take k)).2) W1 hJ1 (by rw [List.length_take, Conv.outs_length]; omega)
      have hnext := fun (bit : Int) (hbit : bit % 2 = (Conv.bn BS[k] : Nat)) => next_any (Conv.st (Conv.after false false (BS.take k)).1 (Conv.after false false (BS.take k)).2 : Nat) bit (Conv.after false false (BS.take k)).1 (Conv.after false false (BS.take k)).2 BS[k] W1 (by cases (Conv.after false false (BS.take k)).1 <;> cases (Conv.after false false (BS.take k)).2 <;> rfl) hbit
      dsimp only at hy hnext
      generalize (Conv.after false false (BS.take k)).1 = p at *
      generalize (Conv.after false false (BS.take k)).2 = q at *
      generalize hu : BS[k] = u at *
      have hbn : (48 + ((Conv.bn u : Nat) : Int) - 48) % 2 = (Conv.bn u : Nat) := by cases u <;> rfl
      have hnext1 := hnext (48 + ((Conv.bn u : Nat) : Int) - 48) hbn
      clear hnext hbn
      generalize hX : (⟨#[Conv.ch ((u ^^ p) ^^ q), Conv.ch (u ^^ q)]⟩ : ByteArray) = X at *
      generalize hst2 : Conv.st u p = s2 at *
      have HX := Lib.hid hX
      have HU := Lib.hid hu
      have HTS := Lib.hid hts
      have HAS := Lib.hid has
      have HS2 := Lib.hid hst2
      have HCH := Lib.hid hch
      rw [hch] at hnx
      clear hX hu hts has hst2 hch
      generalize Conv.st p q = s1 at *
      generalize hb : Conv.bn u = bu at *
      have HB := Lib.hid hb
      have hbu : bu ≤ 1 := by rw [← hb]; cases u <;> decide
      clear hb
      gi_wp2
      refine ⟨trivial, ?_⟩
      refine (callsIn_wide.2 hnext1).mono ?_
      rintro e w' ⟨rfl, rfl⟩
      gi_wp2
      refine hR.mono ?_
      rintro e W3 (⟨rfl, hJ3, hk3⟩ | ⟨rfl, hJx3⟩)
      · have hit3 := hk3.same _ _ hit1 rfl
        gi_wp2
        go_roundw
        case rel => exact ⟨k + 1, by omega, by rw [HAS.out, HS2.out], by rw [HTS.out]; exact hJ3, hit3, by have := hk3.size; omega⟩
        case measure => rw [iterPos_of hit3, iterPos_of hit]; omega
      · gi_wp2
        refine bodyPost_ret (results_none rfl _ _ _) rfl ?_
        exact ⟨⟨_, rfl⟩, .inr ⟨_, trivial, hJx3⟩⟩
    · obtain rfl : k = BS.length := by omega
      have hend : ∀ ty, (Instr.next (.pointer (some ⟨W.heap.size, 0, none⟩)) true ty).run Tryd.prog wr = .ok (.tuple #[.bool false]) wr := fun ty =>
        Lib.run_next_end_at wr W.heap.size S BS.length ty hit (by omega)
      rw [List.take_of_length_le (by rw [Conv.outs_length]; omega)] at hJs
      gi_wp2
      go_end0
      exact ⟨⟨_, rfl⟩, .inl ⟨_, rfl, hJs⟩⟩
end Go.Proofs.YtnklgppfggkeoaaDoor
