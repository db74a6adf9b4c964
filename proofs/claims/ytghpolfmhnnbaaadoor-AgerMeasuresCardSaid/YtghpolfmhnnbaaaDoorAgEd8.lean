/-
  The edit of the kind 8: burst.
-/
import Derived.Test.YtghpolfmhnnbaaaDoorAgEd2
namespace Go.Proofs.YtghpolfmhnnbaaaDoor
open Go.RowKit

theorem edit8_no {ps : List (List UInt8)} {x : List UInt8} {r a l : Int} {p q : Nat} (h : a < 0 ∨ (x.length : Int) ≤ a ∨ l < 1) : edit ⟨8, r, p, a, l⟩ ps q x = none := by
  unfold edit pieceE
  rcases h with h | h | h <;> simp [inside] <;> omega
theorem edit8_yes {ps : List (List UInt8)} {x : List UInt8} {r l : Int} {p q a m : Nat} (h2 : a < x.length) (h3 : 1 ≤ l) (hm : m = min l.toNat (x.length - a)) : edit ⟨8, r, p, a, l⟩ ps q x = some (rep ps q [over x a m]) := by
  unfold edit pieceE burstN
  simp [inside, hm]
  omega
theorem rep49 (n : Nat) : Lib.repeatL [49] n = List.replicate n 49 := by
  induction n with
  | zero => rfl
  | succ n ih => simp_all [Lib.repeatL, List.replicate_succ]
/-- The call of replace whose new pieces have just been laid. -/
theorem rep_at0 {w X : World} {ao : Option Addr} {n cap p : Nat} {ps : List (List UInt8)} {x : List UInt8} (h : EdArg w ao n cap ps p x) (hX : Below w.heap.size w X) (cs : Array Value) (bs : List (List UInt8)) (hcs : cs.toList = strsL bs) (m : Nat) (hm : bs.length = m) (hm6 : m ≤ 65536) :
    Calls Tryd.prog 30 #[.slice ao n cap, .int .i64 p, .slice (some ⟨X.heap.size, 0, none⟩) m m] (X.alloc (.cells cs 9)) fun e w' => ∃ v, e = .returned v ∧ Own w' w.heap.size 9 v (strsL (rep ps p bs)) ∧ Below w.heap.size w w' ∧ Below X.heap.size X w' := by
  subst hm
  have hb2 : Below X.heap.size X (X.alloc (.cells cs 9)) := ((Below.refl X.heap.size X).alloc (Nat.le_refl _) _)
  have hk : (X.alloc (.cells cs 9)).heap[X.heap.size]? = some (.cells cs 9 (0, 0)) := heap_alloc_new X _
  have hz : (X.alloc (.cells cs 9)).heap.size = X.heap.size + 1 := by simp
  have hs := hX.size
  refine (replace_any ao _ n cap bs.length bs.length p ps bs _ ((h.st.below hX).below hb2) (strs_lit hcs hk) h.lt h.nc h.n6 hm6 h.cap6).mono ?_
  rintro e w1 ⟨v, rfl, ho, hb1⟩
  exact ⟨v, rfl, ho.more (by omega), (hX.trans (hb2.mono hs)).trans (hb1.mono (by omega)), hb2.trans (hb1.mono (by omega))⟩

set_option maxHeartbeats 4000000 in
set_option maxRecDepth 100000 in
theorem edit8_any (ao : Option Addr) (n cap p : Nat) (ps : List (List UInt8)) (x : List UInt8) (r a l : Int) (w : World) (h : EdArg w ao n cap ps p x) (hl6 : l ≤ 9223372036854775807) :
    Calls Tryd.prog 34 #[.slice ao n cap, .agg #[.int .i64 8, .int .i64 r, .int .i64 p, .int .i64 a, .int .i64 l]] w (EditP (edit ⟨8, r, p, a, l⟩ ps p x) w) := by
  have hlt := h.lt
  have hn6 := h.n6
  have hcap6 := h.cap6
  have hnc := h.nc
  have hx6 := h.x6
  obtain ⟨b1, o1, hao, hc1⟩ := h.st.2 p x h.get
  have HH := Lib.hid h
  clear h
  subst hao
  obtain ⟨W, hW, hbW, hzW, d0, d1, d2, d3, d4⟩ := dbox w 8 r p a l
  have hlt1 := World.block_lt_of_cell? _ _ hc1
  have hc2 := (hbW.cell (p := ⟨b1, o1 + p, none⟩) hlt1).trans hc1
  have hlw : w.heap.size < W.heap.size := by omega
  have hxs : (⟨x.toArray⟩ : ByteArray).size = x.length := mk_size x
  by_cases hin : 0 ≤ a ∧ a < x.length ∧ 1 ≤ l
  · obtain ⟨j, rfl⟩ : ∃ j : Nat, a = j := ⟨a.toNat, by omega⟩
    obtain ⟨_, h2, h1⟩ := hin
    obtain ⟨m, hm⟩ : ∃ m, m = min l.toNat (x.length - j) := ⟨_, rfl⟩
    have hed := edit8_yes (ps := ps) (x := x) (r := r) (l := l) (p := p) (q := p) (a := j) (by omega) h1 hm
    have HED := Lib.hid hed
    have hmm : min l (((⟨x.toArray⟩ : ByteArray).size : Int) - (j : Int)) = (m : Int) := by rw [hxs]; omega
    have hm1 : 1 ≤ m := by omega
    have hm2 : j + m ≤ (⟨x.toArray⟩ : ByteArray).size := by rw [hxs]; omega
    have hrep := fun (X : World) (hX : Below w.heap.size w X) => rep_at0 HH.out hX #[.string (((⟨x.toArray⟩ : ByteArray).extract 0 j ++ ⟨(List.replicate m (49 : UInt8)).toArray⟩) ++ (⟨x.toArray⟩ : ByteArray).extract (j + m) (⟨x.toArray⟩ : ByteArray).size)] [over x j m] (by
        show [Value.string _] = [Value.string _]
        rw [mk_take, mk_drop]
        refine congrArg (fun z => [Value.string z]) (of_toList ?_)
        rw [app_data, app_data]
        simp [over]) 1 rfl (by omega)
    have HC := Lib.hid hrep
    have hr := Tryd.strings_Repeat ⟨#[49]⟩ m
    have hr2 : ∀ X : World, Calls Tryd.prog 45 #[.string ⟨#[49]⟩, .int .i64 m] X fun e w' => e = .returned (.string ⟨(List.replicate m (49 : UInt8)).toArray⟩) ∧ Below X.heap.size X w' := fun X => by
      have h := hr X (by omega) (by show 1 * m ≤ _; omega)
      rw [show ((⟨#[49]⟩ : ByteArray).data.toList) = [49] from rfl, rep49] at h
      exact h
    have HRP := Lib.hid hr2
    have hrs : (⟨(List.replicate m (49 : UInt8)).toArray⟩ : ByteArray).size = m := by rw [mk_size]; simp
    rw [← hxs] at h2 hx6
    clear hrep hed hxs hc1 hr hr2 hm
    generalize (⟨x.toArray⟩ : ByteArray) = Y at *
    generalize (⟨(List.replicate m (49 : UInt8)).toArray⟩ : ByteArray) = Z at *
    have h3 : ¬ ((j : Int) < 0) := by omega
    have h4 : ¬ ((Y.size : Int) ≤ (j : Int)) := by omega
    have h4b : ¬ (l < 1) := by omega
    have h5 : j ≤ Y.size := by omega
    have h6 : (j : Int) ≤ (Y.size : Int) := by omega
    have h7 : (j : Int) + (m : Int) ≤ (Y.size : Int) := by omega
    have e1 : IntKind.i64.wrap ((j : Int) + (m : Int)) = (j : Int) + (m : Int) := IntWalk.i64_in _ (by omega)
    have e2 : ((j : Int) + (m : Int)).toNat = j + m := by omega
    have e0 : 0 ≤ (j : Int) + (m : Int) := by omega
    clear hzW
    go_enter Tryd.func34, Tryd.ntmps34
    go_wp2_with fail
    have q1 : (Y.extract 0 j).size = j := by rw [ByteArray.size_extract]; omega
    have q2 : (Y.extract (j + m) Y.size).size = Y.size - (j + m) := by rw [ByteArray.size_extract]; omega
    have s1 : (Y.extract 0 j).size + Z.size ≤ 9223372036854775807 := by rw [q1, hrs]; omega
    have s2 : (Y.extract 0 j ++ Z).size + (Y.extract (j + m) Y.size).size ≤ 9223372036854775807 := by rw [ByteArray.size_append, q1, q2, hrs]; omega
    have r1 := fun W => run_string_add_sum (P := Tryd.prog) W _ _ s1
    have r2 := fun W => run_string_add_sum (P := Tryd.prog) W _ _ s2
    clear hmm q1 q2 s1 s2
    go_region_held3 (fun w' => w'.cell? ⟨w.heap.size, 2, none⟩ = some (.int .i64 p) ∧ w'.cell? ⟨w.heap.size, 3, none⟩ = some (.int .i64 j)) (first | go_keep | exact ⟨(hb1.cell (p := ⟨w.heap.size, 2, none⟩) hlw).trans d2, (hb1.cell (p := ⟨w.heap.size, 3, none⟩) hlw).trans d3⟩ | exact ⟨((hb1.alloc hb1.size _).cell (p := ⟨w.heap.size, 2, none⟩) hlw).trans d2, ((hb1.alloc hb1.size _).cell (p := ⟨w.heap.size, 3, none⟩) hlw).trans d3⟩ | exact ⟨(hb3.cell (p := ⟨w.heap.size, 2, none⟩) hlw).trans d2, (hb3.cell (p := ⟨w.heap.size, 3, none⟩) hlw).trans d3⟩)
      (first | (go_at_call 45; refine (HRP.out _).mono ?_; rintro e w1 ⟨rfl, hb0⟩; have hb1 : Below W.heap.size W w1 := ((Below.refl W.heap.size W).drew).trans hb0) | (go_at_call 30; refine (HC.out w1 (hbW.trans (hb1.mono hbW.size))).mono ?_; rintro e w2 ⟨v, rfl, ho, hb2, hb4⟩; have hb3 : Below W.heap.size W w2 := hb1.trans (hb4.mono hb1.size)))
    go_wp2_with fail
    go_ret2
    rw [HED.out]
    exact ⟨v, rfl, fun q hq => by injection hq with hq; rw [← hq]; exact ho, hb2⟩
  · have hed := edit8_no (ps := ps) (x := x) (r := r) (a := a) (l := l) (p := p) (q := p) (by omega)
    have HED := Lib.hid hed
    rw [← hxs] at hin hx6
    clear hzW hed hxs hc1
    generalize (⟨x.toArray⟩ : ByteArray) = Y at *
    by_cases h1 : a < 0
    · go_enter Tryd.func34, Tryd.ntmps34
      go_wp2_with fail
      go_ret2
      rw [HED.out]
      exact ⟨_, rfl, (fun q hq => by cases hq), hbW⟩
    · by_cases h2 : (Y.size : Int) ≤ a
      · go_enter Tryd.func34, Tryd.ntmps34
        go_wp2_with fail
        go_ret2
        rw [HED.out]
        exact ⟨_, rfl, (fun q hq => by cases hq), hbW⟩
      · have h3 : l < 1 := by omega
        go_enter Tryd.func34, Tryd.ntmps34
        go_wp2_with fail
        go_ret2
        rw [HED.out]
        exact ⟨_, rfl, (fun q hq => by cases hq), hbW⟩
end Go.Proofs.YtghpolfmhnnbaaaDoor
