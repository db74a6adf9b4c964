/-
  The edits of the kinds 1 and 2: one cell replaced. (Written by gen_agcell.py.)
-/
import Derived.Test.YtghpolfmhnnbaaaDoorAgEd8
namespace Go.Proofs.YtghpolfmhnnbaaaDoor
open Go.RowKit

set_option maxHeartbeats 400000 in
set_option maxRecDepth 100000 in
theorem const63 (c : UInt8) (w : World) : Calls Tryd.prog 27 #[.int .u8 c.toNat] w fun e w' => e = .returned (.int .u8 63) ∧ w = w' := by
  go_enter Tryd.func27, Tryd.ntmps27
  go_wp2_with fail
  go_ret
  exact ⟨rfl, rfl⟩
set_option maxHeartbeats 400000 in
set_option maxRecDepth 100000 in
theorem invert_any (c : UInt8) (w : World) : Calls Tryd.prog 28 #[.int .u8 c.toNat] w fun e w' => e = .returned (.int .u8 (inv1 c).toNat) ∧ w = w' := by
  by_cases h8 : c = 48
  · subst h8
    go_enter Tryd.func28, Tryd.ntmps28
    go_wp2_with fail
    go_ret
    exact ⟨rfl, rfl⟩
  · by_cases h9 : c = 49
    · subst h9
      go_enter Tryd.func28, Tryd.ntmps28
      go_wp2_with fail
      go_ret
      exact ⟨rfl, rfl⟩
    · have e8 : ((c.toNat : Int) == 48) = false := by rw [beq48]; simpa using h8
      have e9 : ((c.toNat : Int) == 49) = false := by rw [beq49]; simpa using h9
      have hv : inv1 c = c := by unfold inv1; rw [if_neg h8, if_neg h9]
      rw [hv]
      clear h8 h9 hv
      go_enter Tryd.func28, Tryd.ntmps28
      go_wp2_with fail
      go_ret
      exact ⟨rfl, rfl⟩
theorem conv_one (c : UInt8) (V : World) : (convert 70 9 (.slice (some ⟨V.heap.size, 0, none⟩) 1 1)).run Tryd.prog (V.alloc (.cells #[.int .u8 c.toNat] 5)).drew = .ok (.string ⟨#[c]⟩) (V.alloc (.cells #[.int .u8 c.toNat] 5)).drew := by
  have hr : Row (V.alloc (.cells #[.int .u8 c.toNat] 5)).drew V.heap.size 5 (bytesL [c]) := Row.drew (Row.lit2 (w := V) [c] #[.int .u8 c.toNat] rfl)
  exact conv_row 70 5 9 Tryd.underlying70 Tryd.underlying5 Tryd.underlying9 hr 1 1 rfl
theorem edit1_no {ps : List (List UInt8)} {x : List UInt8} {r a l : Int} {p q : Nat} (h : a < 0 ∨ (x.length : Int) ≤ a) : edit ⟨1, r, p, a, l⟩ ps q x = none := by
  unfold edit pieceE
  rcases h with h | h <;> simp [inside] <;> omega
theorem edit1_yes {ps : List (List UInt8)} {x : List UInt8} {r l : Int} {p q a : Nat} (h2 : a < x.length) : edit ⟨1, r, p, a, l⟩ ps q x = some (rep ps q [rep x a [63]]) := by
  unfold edit pieceE
  simp [inside]
  omega

set_option maxHeartbeats 4000000 in
set_option maxRecDepth 100000 in
theorem edit1_any (ao : Option Addr) (n cap p : Nat) (ps : List (List UInt8)) (x : List UInt8) (r a l : Int) (gb : Nat) (w : World) (h : EdArg w ao n cap ps p x) (hg : w.cell? ⟨gb, 0, none⟩ = some (.func (.func 27) #[] #[])) :
    Calls Tryd.prog 43 #[.slice ao n cap, .agg #[.int .i64 1, .int .i64 r, .int .i64 p, .int .i64 a, .int .i64 l], .pointer (some ⟨gb, 0, none⟩)] w (EditP (edit ⟨1, r, p, a, l⟩ ps p x) w) := by
  have hlt := h.lt
  have hn6 := h.n6
  have hcap6 := h.cap6
  have hnc := h.nc
  have hx6 := h.x6
  obtain ⟨b1, o1, hao, hc1⟩ := h.st.2 p x h.get
  have HH := Lib.hid h
  clear h
  subst hao
  obtain ⟨W, hW, hbW, hzW, d0, d1, d2, d3, d4⟩ := dbox w 1 r p a l
  have hlt1 := World.block_lt_of_cell? _ _ hc1
  have hlt2 := World.block_lt_of_cell? _ _ hg
  have hc2 := (hbW.cell (p := ⟨b1, o1 + p, none⟩) hlt1).trans hc1
  have hg2 := (hbW.cell (p := ⟨gb, 0, none⟩) hlt2).trans hg
  have hlw : w.heap.size < W.heap.size := by omega
  have hlg : gb < W.heap.size := by
    have : gb < w.heap.size := hlt2
    omega
  have hxs : (⟨x.toArray⟩ : ByteArray).size = x.length := mk_size x
  by_cases hin : 0 ≤ a ∧ a < x.length
  · obtain ⟨j, rfl⟩ : ∃ j : Nat, a = j := ⟨a.toNat, by omega⟩
    obtain ⟨_, h2⟩ := hin
    have h2n : j < x.length := by omega
    have hed := edit1_yes (ps := ps) (x := x) (r := r) (l := l) (p := p) (q := p) (a := j) h2n
    have HED := Lib.hid hed
    obtain ⟨c, hc⟩ : ∃ c, x[j]? = some c := ⟨_, List.getElem?_eq_getElem h2n⟩
    have hcall := fun (X : World) (hX : Below w.heap.size w X) => rep_at HH.out hX #[.string (((⟨x.toArray⟩ : ByteArray).extract 0 j ++ ⟨#[(63 : UInt8)]⟩) ++ (⟨x.toArray⟩ : ByteArray).extract (j + 1) (⟨x.toArray⟩ : ByteArray).size)] [rep x j [63]] (by
        show [Value.string _] = [Value.string _]
        rw [mk_take, mk_drop]
        refine congrArg (fun z => [Value.string z]) (of_toList ?_)
        rw [app_data, app_data]
        simp [rep]) 1 rfl (by omega)
    have HC := Lib.hid hcall
    have hci : ∀ h : j < (⟨x.toArray⟩ : ByteArray).size, (⟨x.toArray⟩ : ByteArray)[j] = c := fun h => by
      have h1 := get_of_lt ⟨x.toArray⟩ j h
      have h3 : (⟨x.toArray⟩ : ByteArray).data.toList = x := rfl
      rw [h3, hc] at h1
      exact (Option.some.inj h1).symm
    rw [← hxs] at h2 h2n hx6
    clear hcall hed hxs hc1 hc hzW hg
    generalize (⟨x.toArray⟩ : ByteArray) = Y at *
    have hcc := hci h2n
    have h3 : ¬ ((j : Int) < 0) := by omega
    have h4 : ¬ ((Y.size : Int) ≤ (j : Int)) := by omega
    have h5 : j ≤ Y.size := by omega
    have h6 : (j : Int) ≤ (Y.size : Int) := by omega
    have h7 : (j : Int) + 1 ≤ (Y.size : Int) := by omega
    have h8 : (0 : Int) ≤ (j : Int) := by omega
    have e1 : IntKind.i64.wrap ((j : Int) + 1) = (j : Int) + 1 := IntWalk.i64_in _ (by omega)
    have e2 : ((j : Int) + 1).toNat = j + 1 := by omega
    have e0 : 0 ≤ (j : Int) + 1 := by omega
    have q1 : (Y.extract 0 j).size = j := by rw [ByteArray.size_extract]; omega
    have q2 : (Y.extract (j + 1) Y.size).size = Y.size - (j + 1) := by rw [ByteArray.size_extract]; omega
    have q3 : (⟨#[(63 : UInt8)]⟩ : ByteArray).size = 1 := rfl
    have s1 : (Y.extract 0 j).size + (⟨#[(63 : UInt8)]⟩ : ByteArray).size ≤ 9223372036854775807 := by rw [q1, q3]; omega
    have s2 : (Y.extract 0 j ++ ⟨#[(63 : UInt8)]⟩).size + (Y.extract (j + 1) Y.size).size ≤ 9223372036854775807 := by rw [ByteArray.size_append, q1, q2, q3]; omega
    have r1 := fun W => run_string_add_sum (P := Tryd.prog) W _ _ s1
    have r2 := fun W => run_string_add_sum (P := Tryd.prog) W _ _ s2
    have r3 : (convert 70 9 (.slice (some ⟨W.heap.size, 0, none⟩) 1 1)).run Tryd.prog (W.alloc (.cells #[.int .u8 63] 5)).drew = .ok (.string ⟨#[(63 : UInt8)]⟩) (W.alloc (.cells #[.int .u8 63] 5)).drew := conv_one ((63 : UInt8)) W
    have r4 : ∀ V : World, (Instr.index 9 (.string Y) (.int .i64 j)).run Tryd.prog V = .ok (.int .u8 c.toNat) V := fun V => by
      have := hcc
      go_simp
    have hbV : Below W.heap.size W (W.alloc (.cells #[.int .u8 63] 5)) := (Below.refl W.heap.size W).alloc (Nat.le_refl _) _
    have hkV : Below w.heap.size w (W.alloc (.cells #[.int .u8 63] 5)) := hbW.trans (hbV.mono hbW.size)
    have hbz : (W.alloc (.cells #[.int .u8 63] 5)).heap.size = W.heap.size + 1 := by simp
    have HCV := HC.out _ hkV
    rw [hbz] at HCV
    have HCV := Lib.hid HCV
    have HBV := Lib.hid hbV
    clear q1 q2 q3 s1 s2 hci hcc hbz hkV hbV
    go_enter Tryd.func43, Tryd.ntmps43
    go_wp2_with fail
    refine wp_region_held_drew (S := fun w' => w'.cell? ⟨w.heap.size, 2, none⟩ = some (.int .i64 p) ∧ w'.cell? ⟨w.heap.size, 3, none⟩ = some (.int .i64 j) ∧ w'.cell? ⟨gb, 0, none⟩ = some (.func (.func 27) #[] #[])) (by kernel_rfl) ⟨d2, d3, hg2⟩ (fun hHeld => ?_)
    refine wpAnyH_take (i := 0) (v := ?_) rfl (by kernel_rfl) (by kernel_rfl) (by kernel_rfl) (fun _ _ _ h => h) (Or.inl ⟨by rfl, ?_⟩) (by assumption) ?_
    rotate_left
    · intro w hSw
      try dsimp only at hSw
      go_simp
      try with_reducible rfl
    simp only [Act.put, List.setIfInBounds_toArray]
    refine wpAnyH_take (i := 1) (v := ?_) rfl (by kernel_rfl) (by kernel_rfl) (by kernel_rfl) (fun _ _ _ h => h) (Or.inl ⟨by rfl, ?_⟩) (by assumption) ?_
    rotate_left
    · intro w hSw
      try dsimp only at hSw
      go_simp
      try with_reducible rfl
    simp only [Act.put]
    refine wpAnyH_take (i := 2) (v := ?_) rfl (by kernel_rfl) (by kernel_rfl) (by kernel_rfl) (fun _ _ _ h => h) (Or.inl ⟨by rfl, ?_⟩) (by assumption) ?_
    rotate_left
    · intro w hSw
      try dsimp only at hSw
      go_simp
      try with_reducible rfl
    simp only [Act.put]
    refine wpAnyH_take (i := 3) (v := ?_) rfl (by kernel_rfl) (by kernel_rfl) (by kernel_rfl) (fun _ _ _ h => h) (Or.inl ⟨by rfl, ?_⟩) (by assumption) ?_
    rotate_left
    · intro w hSw
      try dsimp only at hSw
      go_simp
      try with_reducible rfl
    simp only [Act.put]
    refine wpAnyH_take (i := 4) (v := ?_) rfl (by kernel_rfl) (by kernel_rfl) (by kernel_rfl) (fun _ _ _ h => h) (Or.inl ⟨by rfl, ?_⟩) (by assumption) ?_
    rotate_left
    · intro w hSw
      try dsimp only at hSw
      go_simp
      try with_reducible rfl
    simp only [Act.put]
    refine wpAnyH_take (i := 5) (v := ?_) rfl (by kernel_rfl) (by kernel_rfl) (by kernel_rfl) (fun _ _ _ h => h) (Or.inl ⟨by rfl, ?_⟩) (by assumption) ?_
    rotate_left
    · intro w hSw
      try dsimp only at hSw
      go_simp
      try with_reducible rfl
    simp only [Act.put]
    refine wpAnyH_take (i := 6) (v := ?_) rfl (by kernel_rfl) (by kernel_rfl) (by kernel_rfl) (fun _ _ _ h => h) (Or.inl ⟨by rfl, ?_⟩) (by assumption) ?_
    rotate_left
    · intro w hSw
      try dsimp only at hSw
      go_simp
      try with_reducible rfl
    simp only [Act.put]
    refine wpAnyH_take (i := 7) (v := ?_) rfl (by kernel_rfl) (by kernel_rfl) (by kernel_rfl) (fun _ _ _ h => h) (Or.inl ⟨by rfl, ?_⟩) (by assumption) ?_
    rotate_left
    · intro w hSw
      try dsimp only at hSw
      go_simp
      try with_reducible rfl
    simp only [Act.put]
    refine wpAnyH_take (i := 8) (v := ?_) rfl (by kernel_rfl) (by kernel_rfl) (by kernel_rfl) (fun _ _ _ h => h) (Or.inl ⟨by rfl, ?_⟩) (by assumption) ?_
    rotate_left
    · intro w hSw
      try dsimp only at hSw
      go_simp
      try with_reducible rfl
    simp only [Act.put]
    refine wpAnyH_take (i := 9) (v := ?_) rfl (by kernel_rfl) (by kernel_rfl) (by kernel_rfl) (fun _ _ _ h => h) (Or.inl ⟨by rfl, ?_⟩) (by assumption) ?_
    rotate_left
    · intro w hSw
      try dsimp only at hSw
      go_simp
      try with_reducible rfl
    simp only [Act.put]
    refine wpAnyH_take (i := 10) (v := ?_) rfl (by kernel_rfl) (by kernel_rfl) (by kernel_rfl) (fun _ _ _ h => h) (Or.inl ⟨by rfl, ?_⟩) (by assumption) ?_
    rotate_left
    · intro w hSw
      try dsimp only at hSw
      go_simp
      try with_reducible rfl
    simp only [Act.put]
    refine wpAnyH_take (i := 11) (v := ?_) rfl (by kernel_rfl) (by kernel_rfl) (by kernel_rfl) (fun _ _ _ h => h) (Or.inl ⟨by rfl, ?_⟩) (by assumption) ?_
    rotate_left
    · intro w hSw
      try dsimp only at hSw
      go_simp
      try with_reducible rfl
    simp only [Act.put]
    refine wpAnyH_take (i := 16) (v := ?_) rfl (by kernel_rfl) (by kernel_rfl) (by kernel_rfl) (fun _ _ _ h => h) (Or.inl ⟨by rfl, ?_⟩) (by assumption) ?_
    rotate_left
    · intro w hSw
      try dsimp only at hSw
      go_simp
      try with_reducible rfl
    simp only [Act.put]
    refine wpAnyH_take (i := 17) (v := ?_) rfl (by kernel_rfl) (by kernel_rfl) (by kernel_rfl) (fun _ _ _ h => h) (Or.inl ⟨by rfl, ?_⟩) (by assumption) ?_
    rotate_left
    · intro w hSw
      try dsimp only at hSw
      go_simp
      try with_reducible rfl
    simp only [Act.put]
    refine wpAnyH_take (i := 18) (v := ?_) rfl (by kernel_rfl) (by kernel_rfl) (by kernel_rfl) (fun _ _ _ h => h) (Or.inl ⟨by rfl, ?_⟩) (by assumption) ?_
    rotate_left
    · intro w hSw
      try dsimp only at hSw
      go_simp
      try with_reducible rfl
    simp only [Act.put]
    refine wpAnyH_take (i := 19) (v := ?_) rfl (by kernel_rfl) (by kernel_rfl) (by kernel_rfl) (fun _ _ _ h => h) (Or.inl ⟨by rfl, ?_⟩) (by assumption) ?_
    rotate_left
    · intro w hSw
      try dsimp only at hSw
      go_simp
      try with_reducible rfl
    simp only [Act.put]
    refine wpAnyH_take (i := 20) (v := ?_) rfl (by kernel_rfl) (by kernel_rfl) (by kernel_rfl) (fun _ _ _ h => h) (Or.inl ⟨by rfl, ?_⟩) (by assumption) ?_
    rotate_left
    · intro w hSw
      try dsimp only at hSw
      go_simp
      try with_reducible rfl
    simp only [Act.put]
    refine wpAnyH_ready (rs := [12]) (by kernel_rfl) (by simp) ?_
    refine AllReadyH.cons rfl (fun K hK => ?_) AllReadyH.nil
    go_simp
    refine (const63 c _).mono ?_
    rintro e w1 ⟨rfl, rfl⟩
    go_wp2_with fail
    refine hK.out _ _ ⟨d2, d3, hg2⟩ (fun hHeld => ?_)
    clear hK K
    try simp only [Act.put, List.setIfInBounds_toArray, List.set_cons_zero, List.set_cons_succ]
    refine wpAnyH_ready (rs := [13]) (by kernel_rfl) (by simp) ?_
    refine AllReadyH.cons rfl (fun K hK => ?_) AllReadyH.nil
    go_simp
    refine hK.out _ _ (by go_keep) (fun hHeld => ?_)
    clear hK K
    try simp only [Act.put, List.setIfInBounds_toArray, List.set_cons_zero, List.set_cons_succ]
    refine wpAnyH_ready (rs := [14]) (by kernel_rfl) (by simp) ?_
    refine AllReadyH.cons rfl (fun K hK => ?_) AllReadyH.nil
    go_simp
    refine hK.out _ _ (by go_keep) (fun hHeld => ?_)
    clear hK K
    try simp only [Act.put, List.setIfInBounds_toArray, List.set_cons_zero, List.set_cons_succ]
    refine wpAnyH_take (i := 15) (v := ?_) rfl (by kernel_rfl) (by kernel_rfl) (by kernel_rfl) (fun _ _ _ h => h) (Or.inl ⟨by rfl, ?_⟩) (by assumption) ?_
    rotate_left
    · intro w hSw
      try dsimp only at hSw
      go_simp
      try with_reducible rfl
    simp only [Act.put, List.setIfInBounds_toArray]
    refine wpAnyH_take (i := 21) (v := ?_) rfl (by kernel_rfl) (by kernel_rfl) (by kernel_rfl) (fun _ _ _ h => h) (Or.inl ⟨by rfl, ?_⟩) (by assumption) ?_
    rotate_left
    · intro w hSw
      try dsimp only at hSw
      go_simp
      try with_reducible rfl
    simp only [Act.put]
    refine wpAnyH_ready (rs := [22]) (by kernel_rfl) (by simp) ?_
    refine AllReadyH.cons rfl (fun K hK => ?_) AllReadyH.nil
    go_simp
    refine hK.out _ _ (by go_keep) (fun hHeld => ?_)
    clear hK K
    try simp only [Act.put, List.setIfInBounds_toArray, List.set_cons_zero, List.set_cons_succ]
    refine wpAnyH_ready (rs := [23]) (by kernel_rfl) (by simp) ?_
    refine AllReadyH.cons rfl (fun K hK => ?_) AllReadyH.nil
    go_simp
    refine HCV.out.mono ?_
    rintro e w2 ⟨v, rfl, ho, hb2, hb4⟩
    have hb3 : Below W.heap.size W w2 := HBV.out.trans (hb4.mono (by omega))
    go_wp2_with fail
    refine hK.out _ _ ⟨(hb3.cell (p := ⟨w.heap.size, 2, none⟩) hlw).trans d2, (hb3.cell (p := ⟨w.heap.size, 3, none⟩) hlw).trans d3, (hb3.cell (p := ⟨gb, 0, none⟩) hlg).trans hg2⟩ (fun hHeld => ?_)
    clear hK K
    try simp only [Act.put, List.setIfInBounds_toArray, List.set_cons_zero, List.set_cons_succ]
    refine wpAnyH_ready (rs := [24]) (by kernel_rfl) (by simp) ?_
    refine AllReadyH.cons rfl (fun K hK => ?_) AllReadyH.nil
    go_simp
    refine hK.out _ _ ⟨(hb3.cell (p := ⟨w.heap.size, 2, none⟩) hlw).trans d2, (hb3.cell (p := ⟨w.heap.size, 3, none⟩) hlw).trans d3, (hb3.cell (p := ⟨gb, 0, none⟩) hlg).trans hg2⟩ (fun hHeld => ?_)
    clear hK K
    try simp only [Act.put, List.setIfInBounds_toArray, List.set_cons_zero, List.set_cons_succ]
    refine wpAnyH_ready (rs := [25]) (by kernel_rfl) (by simp) ?_
    refine AllReadyH.cons rfl (fun K hK => ?_) AllReadyH.nil
    go_simp
    refine hK.out _ _ ⟨(hb3.cell (p := ⟨w.heap.size, 2, none⟩) hlw).trans d2, (hb3.cell (p := ⟨w.heap.size, 3, none⟩) hlw).trans d3, (hb3.cell (p := ⟨gb, 0, none⟩) hlg).trans hg2⟩ (fun hHeld => ?_)
    clear hK K
    try simp only [Act.put, List.setIfInBounds_toArray, List.set_cons_zero, List.set_cons_succ]
    refine wpAnyH_done (by kernel_rfl) ?_ _
    go_wp2_with fail
    go_ret2
    rw [HED.out]
    exact ⟨v, rfl, fun q hq => by injection hq with hq; rw [← hq]; exact ho, hb2⟩
  · have hed := edit1_no (ps := ps) (x := x) (r := r) (a := a) (l := l) (p := p) (q := p) (by omega)
    have HED := Lib.hid hed
    rw [← hxs] at hin hx6
    clear hzW hed hxs hc1
    generalize (⟨x.toArray⟩ : ByteArray) = Y at *
    by_cases h1 : a < 0
    · go_enter Tryd.func43, Tryd.ntmps43
      go_wp2_with fail
      go_ret2
      rw [HED.out]
      exact ⟨_, rfl, (fun q hq => by cases hq), hbW⟩
    · have h2 : (Y.size : Int) ≤ a := by omega
      go_enter Tryd.func43, Tryd.ntmps43
      go_wp2_with fail
      go_ret2
      rw [HED.out]
      exact ⟨_, rfl, (fun q hq => by cases hq), hbW⟩

theorem edit2_no {ps : List (List UInt8)} {x : List UInt8} {r a l : Int} {p q : Nat} (h : a < 0 ∨ (x.length : Int) ≤ a) : edit ⟨2, r, p, a, l⟩ ps q x = none := by
  unfold edit pieceE
  rcases h with h | h <;> simp [inside] <;> omega
theorem edit2_yes {ps : List (List UInt8)} {x : List UInt8} {r l : Int} {p q a : Nat} (h2 : a < x.length) : edit ⟨2, r, p, a, l⟩ ps q x = some (rep ps q [rep x a [inv1 (x.getD a 0)]]) := by
  unfold edit pieceE
  simp [inside]
  omega

set_option maxHeartbeats 4000000 in
set_option maxRecDepth 100000 in
theorem edit2_any (ao : Option Addr) (n cap p : Nat) (ps : List (List UInt8)) (x : List UInt8) (r a l : Int) (gb : Nat) (w : World) (h : EdArg w ao n cap ps p x) (hg : w.cell? ⟨gb, 0, none⟩ = some (.func (.func 28) #[] #[])) :
    Calls Tryd.prog 43 #[.slice ao n cap, .agg #[.int .i64 2, .int .i64 r, .int .i64 p, .int .i64 a, .int .i64 l], .pointer (some ⟨gb, 0, none⟩)] w (EditP (edit ⟨2, r, p, a, l⟩ ps p x) w) := by
  have hlt := h.lt
  have hn6 := h.n6
  have hcap6 := h.cap6
  have hnc := h.nc
  have hx6 := h.x6
  obtain ⟨b1, o1, hao, hc1⟩ := h.st.2 p x h.get
  have HH := Lib.hid h
  clear h
  subst hao
  obtain ⟨W, hW, hbW, hzW, d0, d1, d2, d3, d4⟩ := dbox w 2 r p a l
  have hlt1 := World.block_lt_of_cell? _ _ hc1
  have hlt2 := World.block_lt_of_cell? _ _ hg
  have hc2 := (hbW.cell (p := ⟨b1, o1 + p, none⟩) hlt1).trans hc1
  have hg2 := (hbW.cell (p := ⟨gb, 0, none⟩) hlt2).trans hg
  have hlw : w.heap.size < W.heap.size := by omega
  have hlg : gb < W.heap.size := by
    have : gb < w.heap.size := hlt2
    omega
  have hxs : (⟨x.toArray⟩ : ByteArray).size = x.length := mk_size x
  by_cases hin : 0 ≤ a ∧ a < x.length
  · obtain ⟨j, rfl⟩ : ∃ j : Nat, a = j := ⟨a.toNat, by omega⟩
    obtain ⟨_, h2⟩ := hin
    have h2n : j < x.length := by omega
    have hed := edit2_yes (ps := ps) (x := x) (r := r) (l := l) (p := p) (q := p) (a := j) h2n
    have HED := Lib.hid hed
    obtain ⟨c, hc⟩ : ∃ c, x[j]? = some c := ⟨_, List.getElem?_eq_getElem h2n⟩
    have hcall := fun (X : World) (hX : Below w.heap.size w X) => rep_at HH.out hX #[.string (((⟨x.toArray⟩ : ByteArray).extract 0 j ++ ⟨#[inv1 c]⟩) ++ (⟨x.toArray⟩ : ByteArray).extract (j + 1) (⟨x.toArray⟩ : ByteArray).size)] [rep x j [inv1 (x.getD j 0)]] (by
        show [Value.string _] = [Value.string _]
        rw [mk_take, mk_drop]
        refine congrArg (fun z => [Value.string z]) (of_toList ?_)
        rw [app_data, app_data]
        simp [rep, hc]) 1 rfl (by omega)
    have HC := Lib.hid hcall
    have hci : ∀ h : j < (⟨x.toArray⟩ : ByteArray).size, (⟨x.toArray⟩ : ByteArray)[j] = c := fun h => by
      have h1 := get_of_lt ⟨x.toArray⟩ j h
      have h3 : (⟨x.toArray⟩ : ByteArray).data.toList = x := rfl
      rw [h3, hc] at h1
      exact (Option.some.inj h1).symm
    rw [← hxs] at h2 h2n hx6
    clear hcall hed hxs hc1 hc hzW hg
    generalize (⟨x.toArray⟩ : ByteArray) = Y at *
    have hcc := hci h2n
    have h3 : ¬ ((j : Int) < 0) := by omega
    have h4 : ¬ ((Y.size : Int) ≤ (j : Int)) := by omega
    have h5 : j ≤ Y.size := by omega
    have h6 : (j : Int) ≤ (Y.size : Int) := by omega
    have h7 : (j : Int) + 1 ≤ (Y.size : Int) := by omega
    have h8 : (0 : Int) ≤ (j : Int) := by omega
    have e1 : IntKind.i64.wrap ((j : Int) + 1) = (j : Int) + 1 := IntWalk.i64_in _ (by omega)
    have e2 : ((j : Int) + 1).toNat = j + 1 := by omega
    have e0 : 0 ≤ (j : Int) + 1 := by omega
    have q1 : (Y.extract 0 j).size = j := by rw [ByteArray.size_extract]; omega
    have q2 : (Y.extract (j + 1) Y.size).size = Y.size - (j + 1) := by rw [ByteArray.size_extract]; omega
    have q3 : (⟨#[inv1 c]⟩ : ByteArray).size = 1 := rfl
    have s1 : (Y.extract 0 j).size + (⟨#[inv1 c]⟩ : ByteArray).size ≤ 9223372036854775807 := by rw [q1, q3]; omega
    have s2 : (Y.extract 0 j ++ ⟨#[inv1 c]⟩).size + (Y.extract (j + 1) Y.size).size ≤ 9223372036854775807 := by rw [ByteArray.size_append, q1, q2, q3]; omega
    have r1 := fun W => run_string_add_sum (P := Tryd.prog) W _ _ s1
    have r2 := fun W => run_string_add_sum (P := Tryd.prog) W _ _ s2
    have r3 : (convert 70 9 (.slice (some ⟨W.heap.size, 0, none⟩) 1 1)).run Tryd.prog (W.alloc (.cells #[.int .u8 (inv1 c).toNat] 5)).drew = .ok (.string ⟨#[inv1 c]⟩) (W.alloc (.cells #[.int .u8 (inv1 c).toNat] 5)).drew := conv_one (inv1 c) W
    have r4 : ∀ V : World, (Instr.index 9 (.string Y) (.int .i64 j)).run Tryd.prog V = .ok (.int .u8 c.toNat) V := fun V => by
      have := hcc
      go_simp
    have hbV : Below W.heap.size W (W.alloc (.cells #[.int .u8 (inv1 c).toNat] 5)) := (Below.refl W.heap.size W).alloc (Nat.le_refl _) _
    have hkV : Below w.heap.size w (W.alloc (.cells #[.int .u8 (inv1 c).toNat] 5)) := hbW.trans (hbV.mono hbW.size)
    have hbz : (W.alloc (.cells #[.int .u8 (inv1 c).toNat] 5)).heap.size = W.heap.size + 1 := by simp
    have HCV := HC.out _ hkV
    rw [hbz] at HCV
    have HCV := Lib.hid HCV
    have HBV := Lib.hid hbV
    clear q1 q2 q3 s1 s2 hci hcc hbz hkV hbV
    go_enter Tryd.func43, Tryd.ntmps43
    go_wp2_with fail
    refine wp_region_held_drew (S := fun w' => w'.cell? ⟨w.heap.size, 2, none⟩ = some (.int .i64 p) ∧ w'.cell? ⟨w.heap.size, 3, none⟩ = some (.int .i64 j) ∧ w'.cell? ⟨gb, 0, none⟩ = some (.func (.func 28) #[] #[])) (by kernel_rfl) ⟨d2, d3, hg2⟩ (fun hHeld => ?_)
    refine wpAnyH_take (i := 0) (v := ?_) rfl (by kernel_rfl) (by kernel_rfl) (by kernel_rfl) (fun _ _ _ h => h) (Or.inl ⟨by rfl, ?_⟩) (by assumption) ?_
    rotate_left
    · intro w hSw
      try dsimp only at hSw
      go_simp
      try with_reducible rfl
    simp only [Act.put, List.setIfInBounds_toArray]
    refine wpAnyH_take (i := 1) (v := ?_) rfl (by kernel_rfl) (by kernel_rfl) (by kernel_rfl) (fun _ _ _ h => h) (Or.inl ⟨by rfl, ?_⟩) (by assumption) ?_
    rotate_left
    · intro w hSw
      try dsimp only at hSw
      go_simp
      try with_reducible rfl
    simp only [Act.put]
    refine wpAnyH_take (i := 2) (v := ?_) rfl (by kernel_rfl) (by kernel_rfl) (by kernel_rfl) (fun _ _ _ h => h) (Or.inl ⟨by rfl, ?_⟩) (by assumption) ?_
    rotate_left
    · intro w hSw
      try dsimp only at hSw
      go_simp
      try with_reducible rfl
    simp only [Act.put]
    refine wpAnyH_take (i := 3) (v := ?_) rfl (by kernel_rfl) (by kernel_rfl) (by kernel_rfl) (fun _ _ _ h => h) (Or.inl ⟨by rfl, ?_⟩) (by assumption) ?_
    rotate_left
    · intro w hSw
      try dsimp only at hSw
      go_simp
      try with_reducible rfl
    simp only [Act.put]
    refine wpAnyH_take (i := 4) (v := ?_) rfl (by kernel_rfl) (by kernel_rfl) (by kernel_rfl) (fun _ _ _ h => h) (Or.inl ⟨by rfl, ?_⟩) (by assumption) ?_
    rotate_left
    · intro w hSw
      try dsimp only at hSw
      go_simp
      try with_reducible rfl
    simp only [Act.put]
    refine wpAnyH_take (i := 5) (v := ?_) rfl (by kernel_rfl) (by kernel_rfl) (by kernel_rfl) (fun _ _ _ h => h) (Or.inl ⟨by rfl, ?_⟩) (by assumption) ?_
    rotate_left
    · intro w hSw
      try dsimp only at hSw
      go_simp
      try with_reducible rfl
    simp only [Act.put]
    refine wpAnyH_take (i := 6) (v := ?_) rfl (by kernel_rfl) (by kernel_rfl) (by kernel_rfl) (fun _ _ _ h => h) (Or.inl ⟨by rfl, ?_⟩) (by assumption) ?_
    rotate_left
    · intro w hSw
      try dsimp only at hSw
      go_simp
      try with_reducible rfl
    simp only [Act.put]
    refine wpAnyH_take (i := 7) (v := ?_) rfl (by kernel_rfl) (by kernel_rfl) (by kernel_rfl) (fun _ _ _ h => h) (Or.inl ⟨by rfl, ?_⟩) (by assumption) ?_
    rotate_left
    · intro w hSw
      try dsimp only at hSw
      go_simp
      try with_reducible rfl
    simp only [Act.put]
    refine wpAnyH_take (i := 8) (v := ?_) rfl (by kernel_rfl) (by kernel_rfl) (by kernel_rfl) (fun _ _ _ h => h) (Or.inl ⟨by rfl, ?_⟩) (by assumption) ?_
    rotate_left
    · intro w hSw
      try dsimp only at hSw
      go_simp
      try with_reducible rfl
    simp only [Act.put]
    refine wpAnyH_take (i := 9) (v := ?_) rfl (by kernel_rfl) (by kernel_rfl) (by kernel_rfl) (fun _ _ _ h => h) (Or.inl ⟨by rfl, ?_⟩) (by assumption) ?_
    rotate_left
    · intro w hSw
      try dsimp only at hSw
      go_simp
      try with_reducible rfl
    simp only [Act.put]
    refine wpAnyH_take (i := 10) (v := ?_) rfl (by kernel_rfl) (by kernel_rfl) (by kernel_rfl) (fun _ _ _ h => h) (Or.inl ⟨by rfl, ?_⟩) (by assumption) ?_
    rotate_left
    · intro w hSw
      try dsimp only at hSw
      go_simp
      try with_reducible rfl
    simp only [Act.put]
    refine wpAnyH_take (i := 11) (v := ?_) rfl (by kernel_rfl) (by kernel_rfl) (by kernel_rfl) (fun _ _ _ h => h) (Or.inl ⟨by rfl, ?_⟩) (by assumption) ?_
    rotate_left
    · intro w hSw
      try dsimp only at hSw
      go_simp
      try with_reducible rfl
    simp only [Act.put]
    refine wpAnyH_take (i := 16) (v := ?_) rfl (by kernel_rfl) (by kernel_rfl) (by kernel_rfl) (fun _ _ _ h => h) (Or.inl ⟨by rfl, ?_⟩) (by assumption) ?_
    rotate_left
    · intro w hSw
      try dsimp only at hSw
      go_simp
      try with_reducible rfl
    simp only [Act.put]
    refine wpAnyH_take (i := 17) (v := ?_) rfl (by kernel_rfl) (by kernel_rfl) (by kernel_rfl) (fun _ _ _ h => h) (Or.inl ⟨by rfl, ?_⟩) (by assumption) ?_
    rotate_left
    · intro w hSw
      try dsimp only at hSw
      go_simp
      try with_reducible rfl
    simp only [Act.put]
    refine wpAnyH_take (i := 18) (v := ?_) rfl (by kernel_rfl) (by kernel_rfl) (by kernel_rfl) (fun _ _ _ h => h) (Or.inl ⟨by rfl, ?_⟩) (by assumption) ?_
    rotate_left
    · intro w hSw
      try dsimp only at hSw
      go_simp
      try with_reducible rfl
    simp only [Act.put]
    refine wpAnyH_take (i := 19) (v := ?_) rfl (by kernel_rfl) (by kernel_rfl) (by kernel_rfl) (fun _ _ _ h => h) (Or.inl ⟨by rfl, ?_⟩) (by assumption) ?_
    rotate_left
    · intro w hSw
      try dsimp only at hSw
      go_simp
      try with_reducible rfl
    simp only [Act.put]
    refine wpAnyH_take (i := 20) (v := ?_) rfl (by kernel_rfl) (by kernel_rfl) (by kernel_rfl) (fun _ _ _ h => h) (Or.inl ⟨by rfl, ?_⟩) (by assumption) ?_
    rotate_left
    · intro w hSw
      try dsimp only at hSw
      go_simp
      try with_reducible rfl
    simp only [Act.put]
    refine wpAnyH_ready (rs := [12]) (by kernel_rfl) (by simp) ?_
    refine AllReadyH.cons rfl (fun K hK => ?_) AllReadyH.nil
    go_simp
    refine (invert_any c _).mono ?_
    rintro e w1 ⟨rfl, rfl⟩
    go_wp2_with fail
    refine hK.out _ _ ⟨d2, d3, hg2⟩ (fun hHeld => ?_)
    clear hK K
    try simp only [Act.put, List.setIfInBounds_toArray, List.set_cons_zero, List.set_cons_succ]
    refine wpAnyH_ready (rs := [13]) (by kernel_rfl) (by simp) ?_
    refine AllReadyH.cons rfl (fun K hK => ?_) AllReadyH.nil
    go_simp
    refine hK.out _ _ (by go_keep) (fun hHeld => ?_)
    clear hK K
    try simp only [Act.put, List.setIfInBounds_toArray, List.set_cons_zero, List.set_cons_succ]
    refine wpAnyH_ready (rs := [14]) (by kernel_rfl) (by simp) ?_
    refine AllReadyH.cons rfl (fun K hK => ?_) AllReadyH.nil
    go_simp
    refine hK.out _ _ (by go_keep) (fun hHeld => ?_)
    clear hK K
    try simp only [Act.put, List.setIfInBounds_toArray, List.set_cons_zero, List.set_cons_succ]
    refine wpAnyH_take (i := 15) (v := ?_) rfl (by kernel_rfl) (by kernel_rfl) (by kernel_rfl) (fun _ _ _ h => h) (Or.inl ⟨by rfl, ?_⟩) (by assumption) ?_
    rotate_left
    · intro w hSw
      try dsimp only at hSw
      go_simp
      try with_reducible rfl
    simp only [Act.put, List.setIfInBounds_toArray]
    refine wpAnyH_take (i := 21) (v := ?_) rfl (by kernel_rfl) (by kernel_rfl) (by kernel_rfl) (fun _ _ _ h => h) (Or.inl ⟨by rfl, ?_⟩) (by assumption) ?_
    rotate_left
    · intro w hSw
      try dsimp only at hSw
      go_simp
      try with_reducible rfl
    simp only [Act.put]
    refine wpAnyH_ready (rs := [22]) (by kernel_rfl) (by simp) ?_
    refine AllReadyH.cons rfl (fun K hK => ?_) AllReadyH.nil
    go_simp
    refine hK.out _ _ (by go_keep) (fun hHeld => ?_)
    clear hK K
    try simp only [Act.put, List.setIfInBounds_toArray, List.set_cons_zero, List.set_cons_succ]
    refine wpAnyH_ready (rs := [23]) (by kernel_rfl) (by simp) ?_
    refine AllReadyH.cons rfl (fun K hK => ?_) AllReadyH.nil
    go_simp
    refine HCV.out.mono ?_
    rintro e w2 ⟨v, rfl, ho, hb2, hb4⟩
    have hb3 : Below W.heap.size W w2 := HBV.out.trans (hb4.mono (by omega))
    go_wp2_with fail
    refine hK.out _ _ ⟨(hb3.cell (p := ⟨w.heap.size, 2, none⟩) hlw).trans d2, (hb3.cell (p := ⟨w.heap.size, 3, none⟩) hlw).trans d3, (hb3.cell (p := ⟨gb, 0, none⟩) hlg).trans hg2⟩ (fun hHeld => ?_)
    clear hK K
    try simp only [Act.put, List.setIfInBounds_toArray, List.set_cons_zero, List.set_cons_succ]
    refine wpAnyH_ready (rs := [24]) (by kernel_rfl) (by simp) ?_
    refine AllReadyH.cons rfl (fun K hK => ?_) AllReadyH.nil
    go_simp
    refine hK.out _ _ ⟨(hb3.cell (p := ⟨w.heap.size, 2, none⟩) hlw).trans d2, (hb3.cell (p := ⟨w.heap.size, 3, none⟩) hlw).trans d3, (hb3.cell (p := ⟨gb, 0, none⟩) hlg).trans hg2⟩ (fun hHeld => ?_)
    clear hK K
    try simp only [Act.put, List.setIfInBounds_toArray, List.set_cons_zero, List.set_cons_succ]
    refine wpAnyH_ready (rs := [25]) (by kernel_rfl) (by simp) ?_
    refine AllReadyH.cons rfl (fun K hK => ?_) AllReadyH.nil
    go_simp
    refine hK.out _ _ ⟨(hb3.cell (p := ⟨w.heap.size, 2, none⟩) hlw).trans d2, (hb3.cell (p := ⟨w.heap.size, 3, none⟩) hlw).trans d3, (hb3.cell (p := ⟨gb, 0, none⟩) hlg).trans hg2⟩ (fun hHeld => ?_)
    clear hK K
    try simp only [Act.put, List.setIfInBounds_toArray, List.set_cons_zero, List.set_cons_succ]
    refine wpAnyH_done (by kernel_rfl) ?_ _
    go_wp2_with fail
    go_ret2
    rw [HED.out]
    exact ⟨v, rfl, fun q hq => by injection hq with hq; rw [← hq]; exact ho, hb2⟩
  · have hed := edit2_no (ps := ps) (x := x) (r := r) (a := a) (l := l) (p := p) (q := p) (by omega)
    have HED := Lib.hid hed
    rw [← hxs] at hin hx6
    clear hzW hed hxs hc1
    generalize (⟨x.toArray⟩ : ByteArray) = Y at *
    by_cases h1 : a < 0
    · go_enter Tryd.func43, Tryd.ntmps43
      go_wp2_with fail
      go_ret2
      rw [HED.out]
      exact ⟨_, rfl, (fun q hq => by cases hq), hbW⟩
    · have h2 : (Y.size : Int) ≤ a := by omega
      go_enter Tryd.func43, Tryd.ntmps43
      go_wp2_with fail
      go_ret2
      rw [HED.out]
      exact ⟨_, rfl, (fun q hq => by cases hq), hbW⟩
end Go.Proofs.YtghpolfmhnnbaaaDoor
