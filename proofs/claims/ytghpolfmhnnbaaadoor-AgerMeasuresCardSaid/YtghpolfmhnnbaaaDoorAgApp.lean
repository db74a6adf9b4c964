/-
  ager.Apply.
-/
import Derived.Test.YtghpolfmhnnbaaaDoorAgDel
import Derived.Test.YtghpolfmhnnbaaaDoorAgMap
import Derived.Test.YtghpolfmhnnbaaaDoorAgEdC
import Derived.Test.YtghpolfmhnnbaaaDoorAgEd6
import Derived.Deep.DeepCutAuto
import Derived.Deep.CutRange
namespace Go.Proofs.YtghpolfmhnnbaaaDoor
open Go.RowKit

def kindK (k : Int) : Bool := k == 1 || k == 2 || k == 3 || k == 5 || k == 6 || k == 7 || k == 8
theorem edFn_known (b1 b2 : Nat) (k : Int) : (edFn b1 b2 k).isSome = kindK k := by
  unfold edFn kindK
  by_cases h1 : k = 1
  · subst h1; rfl
  · by_cases h2 : k = 2
    · subst h2; rfl
    · by_cases h3 : k = 3
      · subst h3; rfl
      · by_cases h5 : k = 5
        · subst h5; rfl
        · by_cases h6 : k = 6
          · subst h6; rfl
          · by_cases h7 : k = 7
            · subst h7; rfl
            · by_cases h8 : k = 8
              · subst h8; rfl
              · simp [h1, h2, h3, h5, h6, h7, h8]
theorem kindK_cases {k : Int} (h : kindK k = true) : k = 1 ∨ k = 2 ∨ k = 3 ∨ k = 5 ∨ k = 6 ∨ k = 7 ∨ k = 8 := by
  simpa [kindK, or_assoc] using h
theorem edit_unknown {k r p a l : Int} {ps : List (List UInt8)} {q : Nat} {x : List UInt8} (h : kindK k = false) : edit ⟨k, r, p, a, l⟩ ps q x = none := by
  simp only [kindK, Bool.or_eq_false_iff, beq_eq_false_iff_ne] at h
  simp [edit, pieceE, h]
/-- The plain parts of an application. -/
theorem applyR_out {rs : List Reel} {k r p a l : Int} (h : ¬ (0 ≤ r ∧ r < rs.length)) : applyR rs ⟨k, r, p, a, l⟩ = rs := by
  unfold applyR
  rw [if_neg h]
theorem applyR_4 {rs : List Reel} {p a l : Int} {j : Nat} (h : j < rs.length) : applyR rs ⟨4, j, p, a, l⟩ = rs.eraseIdx j := by
  unfold applyR
  rw [if_pos ⟨by show 0 ≤ (j : Int); omega, by show (j : Int) < _; omega⟩, if_pos rfl]
  rfl
theorem applyR_in {rs : List Reel} {k p a l : Int} {j : Nat} {r : Reel} (h : rs[j]? = some r) (hk : k ≠ 4) : applyR rs ⟨k, j, p, a, l⟩ = rs.set j ⟨r.num, editP ⟨k, j, p, a, l⟩ r.ps⟩ := by
  have hl := (List.getElem?_eq_some_iff.1 h).1
  unfold applyR
  rw [if_pos ⟨by show 0 ≤ (j : Int); omega, by show (j : Int) < _; omega⟩, if_neg hk]
  show (match rs[j]? with | some r => _ | none => _) = _
  rw [h]
  rfl
theorem set_same {rs : List Reel} {j : Nat} {r : Reel} (h : rs[j]? = some r) : rs.set j ⟨r.num, r.ps⟩ = rs := by
  have hl := (List.getElem?_eq_some_iff.1 h).1
  rw [List.getElem?_eq_getElem hl] at h
  injection h with h
  subst h
  exact List.set_getElem_self hl
theorem editP_out {d : Dmg} {ps : List (List UInt8)} (h : ¬ (0 ≤ d.piece ∧ d.piece < ps.length)) : editP d ps = ps := by
  unfold editP
  rw [if_neg h]
theorem editP_none {d : Dmg} {ps : List (List UInt8)} {q : Nat} {x : List UInt8} (hq : d.piece = q) (hx : ps[q]? = some x) (h : edit d ps q x = none) : editP d ps = ps := by
  have hl := (List.getElem?_eq_some_iff.1 hx).1
  unfold editP
  rw [if_pos ⟨by omega, by omega⟩, hq, Int.toNat_natCast, List.getD_eq_getElem?_getD, hx, Option.getD_some, h]
  rfl
theorem editP_some {d : Dmg} {ps qs : List (List UInt8)} {q : Nat} {x : List UInt8} (hq : d.piece = q) (hx : ps[q]? = some x) (h : edit d ps q x = some qs) : editP d ps = qs := by
  have hl := (List.getElem?_eq_some_iff.1 hx).1
  unfold editP
  rw [if_pos ⟨by omega, by omega⟩, hq, Int.toNat_natCast, List.getD_eq_getElem?_getD, hx, Option.getD_some, h]
  rfl
theorem look_any {W : World} {M b1 b2 c : Nat} (hb : W.heap[M]? = some (.map (edEs b1 b2) c)) (k : Int) (FV : Value) (hF : (edFn b1 b2 k).getD .nilFunc = FV) (K : Bool) (hK : kindK k = K) :
    (Instr.lookup 46 (.map (some M)) (.int .i64 k) true).run Tryd.prog W = .ok (.tuple #[FV, .bool K]) W := by
  rw [run_look hb, edFn_known, hF, hK]
def Fine (rs : List Reel) : Prop := rs.length ≤ 65536 ∧ ∀ r ∈ rs, r.ps.length ≤ 65536 ∧ ∀ x ∈ r.ps, x.length ≤ 65536
def In64 (z : Int) : Prop := -9223372036854775808 ≤ z ∧ z ≤ 9223372036854775807
set_option maxHeartbeats 4000000 in
set_option maxRecDepth 100000 in
/-- Where the reel does not exist. -/
theorem apply_out (ao : Option Addr) (n cap : Nat) (rs : List Reel) (k r p a l : Int) (w : World) (hr : Reels w ao n rs) (hf : Fine rs) (ho : ¬ (0 ≤ r ∧ r < rs.length)) :
    Calls Tryd.prog 7 #[.slice ao n cap, .agg #[.int .i64 k, .int .i64 r, .int .i64 p, .int .i64 a, .int .i64 l]] w fun e w' => ∃ v, e = .returned v ∧ OwnRs w' w.heap.size v (applyR rs ⟨k, r, p, a, l⟩) ∧ Below w.heap.size w w' := by
  rw [applyR_out ho]
  obtain ⟨W, hW, hbW, hzW, d0, d1, d2, d3, d4⟩ := dbox w k r p a l
  have hn := hr.1
  have HC := Lib.hid (copies_any ao n cap rs W (hr.below hbW) (by have := hf.1; omega) (fun r hr => (hf.2 r hr).1))
  have hlw : w.heap.size < W.heap.size := by omega
  by_cases h0 : r < 0
  · clear hr hf hzW ho hn
    go_enter Tryd.func7, Tryd.ntmps7
    go_wp2_with fail
    refine HC.out.mono ?_
    rintro e w1 ⟨v, rfl, ho1, hb1⟩
    have c1 := (hb1.cell (p := ⟨w.heap.size, 1, none⟩) hlw).trans d1
    go_wp2_with fail
    go_ret
    exact ⟨v, rfl, ho1.more hbW.size, hbW.trans (hb1.mono hbW.size)⟩
  · have h1 : (n : Int) ≤ r := by omega
    clear hr hf hzW ho hn
    go_enter Tryd.func7, Tryd.ntmps7
    go_wp2_with fail
    refine HC.out.mono ?_
    rintro e w1 ⟨v, rfl, ho1, hb1⟩
    have c1 := (hb1.cell (p := ⟨w.heap.size, 1, none⟩) hlw).trans d1
    go_wp2_with fail
    go_ret
    exact ⟨v, rfl, ho1.more hbW.size, hbW.trans (hb1.mono hbW.size)⟩
set_option maxHeartbeats 4000000 in
set_option maxRecDepth 100000 in
/-- A reel is lost. -/
theorem apply_4 (ao : Option Addr) (n cap j : Nat) (rs : List Reel) (p a l : Int) (w : World) (hr : Reels w ao n rs) (hf : Fine rs) (hj : j < rs.length) :
    Calls Tryd.prog 7 #[.slice ao n cap, .agg #[.int .i64 4, .int .i64 j, .int .i64 p, .int .i64 a, .int .i64 l]] w fun e w' => ∃ v, e = .returned v ∧ OwnRs w' w.heap.size v (applyR rs ⟨4, j, p, a, l⟩) ∧ Below w.heap.size w w' := by
  rw [applyR_4 hj]
  obtain ⟨W, hW, hbW, hzW, d0, d1, d2, d3, d4⟩ := dbox w 4 j p a l
  obtain ⟨rfl, hr2⟩ := hr
  obtain ⟨m, hm⟩ : ∃ m, rs.length = m + 1 := ⟨rs.length - 1, by omega⟩
  have hn6 := hf.1
  have HC := Lib.hid (copies_any ao rs.length cap rs W (Reels.below ⟨rfl, hr2⟩ hbW) (by omega) (fun r hr => (hf.2 r hr).1))
  have hlw : w.heap.size < W.heap.size := by omega
  have h0 : ¬ ((j : Int) < 0) := by omega
  have h1 : ¬ ((rs.length : Int) ≤ (j : Int)) := by omega
  have HM := Lib.hid hm
  clear hr2 hf hzW hm
  go_enter Tryd.func7, Tryd.ntmps7
  go_wp2_with fail
  refine HC.out.mono ?_
  rintro e w1 ⟨v, rfl, ho1, hb1⟩
  have c0 := (hb1.cell (p := ⟨w.heap.size, 0, none⟩) hlw).trans d0
  have c1 := (hb1.cell (p := ⟨w.heap.size, 1, none⟩) hlw).trans d1
  obtain ⟨ao1, cap1, rfl, _, _, _⟩ := ho1.form
  have ho2 := ho1
  rw [HM.out] at ho2
  have HD := Lib.hid (delete_any ao1 m cap1 j W.heap.size rs w1 ho2 (by have := HM.out; omega) (by have := HM.out; omega))
  have HO := Lib.hid ho1
  clear ho1 ho2
  go_wp2_with fail
  have hd := HD.out
  rw [← HM.out] at hd
  refine hd.mono ?_
  rintro e w2 ⟨rfl, ho3, hb3⟩
  go_wp2_with fail
  go_ret
  exact ⟨_, rfl, ho3.more hbW.size, hbW.trans ((hb1.mono hbW.size).trans (hb3.mono hbW.size))⟩
end Go.Proofs.YtghpolfmhnnbaaaDoor
