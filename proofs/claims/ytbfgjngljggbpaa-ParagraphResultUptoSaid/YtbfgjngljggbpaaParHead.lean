/-
  Headings: the program's Heading; the law on it.
-/
import Derived.Test.YtbfgjngljggbpaaParLaw3
import Derived.Test.YtbfgjngljggbpaaAppStrs
import Derived.Test.YtbfgjngljggbpaaRepeat
namespace Go.Proofs.Ytbfgjngljggbpaa
open Go.RowKit

def widestL (ls : List (List UInt8)) : Nat := ls.foldl (fun m l => max m l.length) 0
theorem widest_snoc (ls : List (List UInt8)) (k : Nat) (x : List UInt8) (h : ls[k]? = some x) : widestL (ls.take (k + 1)) = max (widestL (ls.take k)) x.length := by
  rw [List.take_add_one, h]
  simp [widestL, List.foldl_append]
theorem widest_go {K : Nat} : ∀ (ls : List (List UInt8)) (m : Nat), m ≤ K → (∀ x ∈ ls, x.length ≤ K) → ls.foldl (fun m l => max m l.length) m ≤ K
  | [], m, hm, _ => hm
  | x :: r, m, hm, h => widest_go r _ (by have := h x (by simp); show max m x.length ≤ K; omega) fun y hy => h y (by simp [hy])
theorem widest_le {ls : List (List UInt8)} {K : Nat} (h : ∀ x ∈ ls, x.length ≤ K) (k : Nat) : widestL (ls.take k) ≤ K := widest_go _ 0 (Nat.zero_le _) fun x hx => h x (List.mem_of_mem_take hx)
def headL (ls : List (List UInt8)) : List (List UInt8) := if ls = [] then [] else ls ++ [List.replicate (widestL ls) 61]

theorem run_max_nat {P : Program} (ts : Array TypeId) (t : TypeId) (a b : Nat) (W : World) : (Builtin.max_ ts t #[.int .i64 (a : Int), .int .i64 (b : Int)]).run P W = .ok (.int .i64 ((max a b : Nat) : Int)) W := by
  have e : (Builtin.max_ ts t #[.int .i64 (a : Int), .int .i64 (b : Int)]).run P W = .ok (.int .i64 (if (a : Int) < (b : Int) then (b : Int) else (a : Int))) W := by
    simp [Builtin.max_, Builtin.max2]
  rw [e]
  congr 2
  split <;> omega

theorem wrapI (v : Value) (ws : List (List UInt8)) (width : Int) (w : World) (hW : Words w v ws) :
    Calls Try.prog 11 #[v, .int .i64 width] w fun e w' => ∃ v, e = .returned (.tuple #[v, .int .i64 (Par.perr ws width)]) ∧ Own w' w.heap.size 9 v (strsL (parV ws width)) ∧ Below w.heap.size w w' := by
  obtain ⟨ao, cap, rfl, _, _, hr, hb⟩ := hW
  have hn := bulkL_len ws
  refine wrap_any ao ws.length cap ws width w hr (by omega) (fun x hx => Nat.le_trans (bulkL_mem hx) hb) fun hE => ?_
  have h1 : 0 < width.toNat := by
    unfold Par.perr at hE
    split at hE <;> omega
  have := Par.pieces_count (w := width.toNat) h1 ws
  have hb2 : (ws.map fun x => x.length + 1).sum ≤ 1048576 := hb
  omega
theorem parV_facts (ws : List (List UInt8)) (width : Int) (hb : bulkL ws ≤ 1048576) : (∀ x ∈ parV ws width, x.length ≤ 200) ∧ (parV ws width).length ≤ 1048576 := by
  unfold parV
  split
  · rename_i hE
    have h1 : 0 < width.toNat ∧ width.toNat ≤ 200 := by
      unfold Par.perr at hE
      split at hE <;> omega
    have hle := Par.pieces_le (w := width.toNat) h1.1 ws
    have h2 := Par.pieces_count (w := width.toNat) h1.1 ws
    have h3 : (ws.map fun x => x.length + 1).sum ≤ 1048576 := hb
    have h4 : (Par.wrap width.toNat ws).length ≤ (Par.pieces width.toNat ws).length := Par.lines_count _ _
    exact ⟨Par.lines_le (w := width.toNat) (K := 200) h1.2 (ps := Par.pieces width.toNat ws) fun p hp => Nat.le_trans (hle p hp) h1.2, by omega⟩
  · exact ⟨fun x hx => (by cases hx), Nat.zero_le _⟩

set_option maxHeartbeats 2000000 in
theorem head_any (v : Value) (ws : List (List UInt8)) (width : Int) (w : World) (hW : Words w v ws) :
    Calls Try.prog 18 #[v, .int .i64 width] w fun e w' => ∃ u, e = .returned (.tuple #[u, .int .i64 (Par.perr ws width)]) ∧ Own w' w.heap.size 9 u (strsL (headL (parV ws width))) ∧ Below w.heap.size w w' := by
  have cw := wrapI v ws width w hW
  obtain ⟨h200, hcnt⟩ := parV_facts ws width (by obtain ⟨_, _, _, _, _, _, hb⟩ := hW; exact hb)
  have hzero : Par.perr ws width ≠ 0 → parV ws width = [] := fun h => if_neg h
  have hEE : Par.perr ws width = 0 ∨ (Par.perr ws width != 0) = true := by
    rcases Classical.em (Par.perr ws width = 0) with h | h
    · exact .inl h
    · exact .inr (by simpa using h)
  clear hW
  generalize parV ws width = ls at *
  generalize Par.perr ws width = E at *
  by_cases hls : ls = []
  · subst hls
    have hz : (strsL []).length = 0 := rfl
    rcases hEE with rfl | hE
    · go_enter Try.func18, Try.ntmps18
      go_wp2_with fail
      refine cw.mono ?_
      rintro e w3 ⟨v3, rfl, ho, hb3⟩
      obtain ⟨ao3, cap3, rfl, _⟩ := ho.form
      rw [hz]
      go_wp2_with fail
      go_ret2
      exact ⟨_, rfl, Own.nil _ _ _, hb3⟩
    · go_enter Try.func18, Try.ntmps18
      go_wp2_with fail
      refine cw.mono ?_
      rintro e w3 ⟨v3, rfl, ho, hb3⟩
      go_wp2_with fail
      go_ret2
      exact ⟨_, rfl, Own.nil _ _ _, hb3⟩
  have hE : E = 0 := Classical.byContradiction fun h => hls (hzero h)
  subst hE
  have hpos := List.length_pos_iff.2 hls
  have HW := Lib.hid (widest_le h200)
  have HS := Lib.hid fun (k : Nat) (x : List UInt8) (h : ls[k]? = some x) => widest_snoc ls k x h
  have HT : Hid (widestL (ls.take ls.length) = widestL ls) := by show _ = _; rw [List.take_length]
  have hH : headL ls = ls ++ [List.replicate (widestL ls) 61] := if_neg hls
  rw [hH]
  clear hEE hzero hls hH h200
  go_enter Try.func18, Try.ntmps18
  go_wp2_with fail
  refine cw.mono ?_
  rintro e w3 ⟨v3, rfl, ho, hb3⟩
  obtain ⟨ao3, cap3, rfl, hao⟩ := ho.form
  rw [strsL_length] at ho hao ⊢
  obtain ⟨g3, rfl⟩ := hao hpos
  go_wp2_with fail
  go_loopw [8, 27] (fun m i wr => ∃ k : Nat, k ≤ ls.length ∧ i = .int .i64 k ∧ m = .int .i64 (widestL (ls.take k)) ∧ wr = w3) (fun _ i _ => ls.length - (intOf i).toNat)
  case atStart => exact ⟨0, Nat.zero_le _, rfl, rfl, rfl⟩
  case round =>
    obtain ⟨k, hk, rfl, rfl, rfl⟩ := hrel
    by_cases hlt : k < ls.length
    · obtain ⟨x, hx⟩ : ∃ x, ls[k]? = some x := ⟨_, List.getElem?_eq_getElem hlt⟩
      have hcell := ho.cell k _ (strsL_get ls k x hx)
      have hst := HS.out k x hx
      have hX : (⟨x.toArray⟩ : ByteArray).size = x.length := mk_size x
      rw [← hX] at hst
      have hmx := fun (ts : Array TypeId) (t : TypeId) (W : World) => run_max_nat (P := Try.prog) ts t (widestL (ls.take k)) (⟨x.toArray⟩ : ByteArray).size W
      rw [← hst] at hmx
      generalize (⟨x.toArray⟩ : ByteArray) = X at *
      clear hX hst hx
      go_wp2_with fail
      go_roundw
      case rel => exact ⟨k + 1, by omega, by go_num, rfl, trivial⟩
      case measure => simp [intOf]; omega
    · obtain rfl : k = ls.length := by omega
      have hw200 := HW.out ls.length
      rw [HT.out] at hw200 ⊢
      have hrep := fun w => repeat_eq (widestL ls) w (by omega)
      have e9 : (⟨Array.replicate (widestL ls) 61⟩ : ByteArray).data.toList = List.replicate (widestL ls) 61 := by simp
      go_wp2_with fail
      refine (hrep _).mono ?_
      rintro e w4 ⟨rfl, hb4⟩
      have ho4 := ho.below hb4 (Nat.le_refl _)
      have hb5 := bchain hb3 hb4
      go_wp2_with (at_builtin; refine wpList_app1 9 22 _ 16 info_str Try.underlying22 rfl rfl _ _ rfl _ _ _ rfl ho4 _ rfl rfl (by rw [strsL_length]; omega) (by rw [strsL_length]; omega) hb5.size ?_; intro v' w5 ho5 hb6 _)
      rw [strsL_snoc', e9] at ho5
      go_ret2
      exact ⟨_, rfl, ho5, hb5.trans hb6⟩
end Go.Proofs.Ytbfgjngljggbpaa
