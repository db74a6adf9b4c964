/-
  The laws Single and Greedy of paragraphs, walked.
-/
import Derived.Test.YtbfgjngljggbpaaParBase
import Derived.Test.YtbfgjngljggbpaaParLaws
import Derived.Test.YtbfgjngljggbpaaJoinW
namespace Go.Proofs.Ytbfgjngljggbpaa
open Go.RowKit

theorem wrapW (v : Value) (ws : List (List UInt8)) (wd : Nat) (w : World) (hW : Words w v ws) (h1 : 1 ≤ wd) :
    Calls Try.prog 11 #[v, .int .i64 wd] w fun e w' => ∃ v, e = .returned (.tuple #[v, .int .i64 (Par.perr ws wd)]) ∧ Own w' w.heap.size 9 v (strsL (parV ws wd)) ∧ Below w.heap.size w w' := by
  obtain ⟨ao, cap, rfl, _, _, hr, hb⟩ := hW
  have hn := bulkL_len ws
  refine wrap_any ao ws.length cap ws wd w hr (by omega) (fun x hx => Nat.le_trans (bulkL_mem hx) hb) fun _ => ?_
  have := Par.pieces_count (w := wd) h1 ws
  have e : ((wd : Int)).toNat = wd := by omega
  rw [e]
  have hb2 : (ws.map fun x => x.length + 1).sum ≤ 1048576 := hb
  omega
theorem greatW (v : Value) (ws : List (List UInt8)) (w : World) (hW : Words w v ws) :
    Calls Try.prog 9 #[v] w fun e w' => e = .returned (.bool (decide (800 < totalL ws))) ∧ w = w' := by
  obtain ⟨ao, cap, rfl, _, _, hr, hb⟩ := hW
  exact great_any ao ws.length cap ws w hr hb
theorem Words.below {w w' : World} {v : Value} {ws : List (List UInt8)} (h : Words w v ws) (hb : Below w.heap.size w w') : Words w' v ws := by
  obtain ⟨ao, cap, e, h1, h2, hr, h3⟩ := h
  exact ⟨ao, cap, e, h1, h2, hr.below hb, h3⟩
theorem width_of {z : Int} (h : (Lit.int .u8 z).wf = true) (m : Nat) (hm : 0 < m) (_hm2 : m ≤ 200) : ∃ wd : Nat, (z % m + 1 : Int) = wd ∧ 1 ≤ wd ∧ wd ≤ m ∧ ∃ n : Nat, z = n ∧ n < 256 := by
  obtain ⟨n, rfl, hn⟩ := u8_nat h
  have := Nat.mod_lt n hm
  exact ⟨n % m + 1, by omega, by omega, by omega, n, rfl, hn⟩
theorem perr_int (ws : List (List UInt8)) (wd : Nat) : Par.perr ws wd = 0 ∨ (Par.perr ws wd != 0) = true := by
  by_cases h : Par.perr ws wd = 0
  · exact .inl h
  · exact .inr (bne_iff_ne.2 h)

set_option maxHeartbeats 2000000 in
theorem law_single (z : Int) (hz : (Lit.int .u8 z).wf = true) (v : Value) (ws : List (List UInt8)) (w : World) (hW : Words w v ws) :
    Calls Try.prog 5 #[v, .int .u8 z] w fun e w' => e = .returned (.bool true) ∧ Below w.heap.size w w' := by
  obtain ⟨wd, e1, w1, w2, n, rfl, hn⟩ := width_of hz 200 (by decide) (by decide)
  have e1 : ((n : Int) % 200 + 1) = wd := e1
  have caw := fun w => awake50_any w
  have cg := fun w hW => greatW v ws w hW
  have cw := fun w hW => wrapW v ws wd w hW w1
  have HW := Lib.hid hW
  obtain ⟨ao, cap, rfl, hcap, _, hr, hb⟩ := hW
  clear hz
  by_cases hg : 800 < totalL ws
  · rw [decide_eq_true hg] at cg
    clear hg
    go_enter Try.func5, Try.ntmps5
    go_wp2_with fail
    refine (cg _ HW.out).mono ?_
    rintro e w3 ⟨rfl, rfl⟩
    go_wp2_with fail
    refine (caw _).mono ?_
    rintro e w3 ⟨rfl, hb3⟩
    go_wp2_with fail
    go_ret
    exact ⟨rfl, hb3⟩
  rw [decide_eq_false hg] at cg
  have hbulk : bulkL ws ≤ 800 := by
    have : bulkL ws ≤ totalL ws := by
      clear hg cg cw HW hr hcap hb
      induction ws with
      | nil => exact Nat.le_refl _
      | cons x r ih =>
        simp only [totalL, bulkL, List.map_cons, List.sum_cons] at ih ⊢
        omega
    omega
  clear hg
  by_cases h0 : ws = []
  · subst h0
    go_enter Try.func5, Try.ntmps5
    go_wp2_with fail
    refine (cg _ HW.out).mono ?_
    rintro e w3 ⟨rfl, rfl⟩
    go_wp2_with fail
    refine (caw _).mono ?_
    rintro e w3 ⟨rfl, hb3⟩
    go_wp2_with fail
    go_ret
    exact ⟨rfl, hb3⟩
  have hlen0 : ((ws.length : Int) == 0) = false := by
    rw [beq_eq_false_iff_ne]
    have := List.length_pos_iff.2 h0
    omega
  rcases perr_int ws wd with hE | hE
  rotate_left
  · generalize Par.perr ws wd = E at *
    go_enter Try.func5, Try.ntmps5
    go_wp2_with fail
    refine (cg _ HW.out).mono ?_
    rintro e w3 ⟨rfl, rfl⟩
    go_wp2_with fail
    refine (cw _ HW.out).mono ?_
    rintro e w3 ⟨v, rfl, ho, hb3⟩
    go_wp2_with fail
    refine (caw _).mono ?_
    rintro e w4 ⟨rfl, hb4⟩
    go_wp2_with fail
    go_ret
    exact ⟨rfl, bchain hb3 hb4⟩
  have hpv : parV ws wd = Par.wrap wd ws := by rw [parV, if_pos hE]; rfl
  rw [hE, hpv] at cw
  have hone := fun h => Par.wrap_one (w := wd) h0 h
  have hsing := Par.single_law (w := wd) w1 h0
  have hjl : (Sep.jn 32 ws).length ≤ 800 := by
    have h1 := Par.jn_length h0
    have h2 : (ws.map fun x => x.length + 1).sum ≤ 800 := hbulk
    omega
  have hwl : ws.length ≤ 800 := Nat.le_trans (bulkL_len ws) hbulk
  have hj := fun w (hr : Strs w ao ws.length ws) => join_any ao ws.length cap ws 32 w rfl hr.2 (by omega) hcap (by omega)
  have hJs : (⟨(Sep.jn 32 ws).toArray⟩ : ByteArray).size = (Sep.jn 32 ws).length := mk_size _
  have HR := Lib.hid hr
  clear hpv hE hr h0
  have hfit : (Par.wrap wd ws).length = 1 ∧ Par.wrap wd ws = [Sep.jn 32 ws] ∧ (Sep.jn 32 ws).length ≤ wd ∨ (Par.wrap wd ws).length ≠ 1 ∧ wd < (Sep.jn 32 ws).length := by
    by_cases hf : (Sep.jn 32 ws).length ≤ wd
    · exact .inl ⟨by rw [hone hf]; rfl, hone hf, hf⟩
    · exact .inr ⟨fun e => hf (hsing e), by omega⟩
  have hSJ : strsL [Sep.jn 32 ws] = [Value.string ⟨(Sep.jn 32 ws).toArray⟩] := rfl
  generalize (⟨(Sep.jn 32 ws).toArray⟩ : ByteArray) = J at *
  rw [← hJs] at hfit
  have hJJ : (J.toList == J.toList) = true := beq_self_eq_true _
  rcases hfit with ⟨_, f2, f3⟩ | ⟨f1, f2⟩
  · rw [f2, hSJ] at cw
    clear f2 hSJ hone hsing hjl hJs
    go_enter Try.func5, Try.ntmps5
    go_wp2_with fail
    refine (cg _ HW.out).mono ?_
    rintro e w3 ⟨rfl, rfl⟩
    go_wp2_with fail
    refine (cw _ HW.out).mono ?_
    rintro e w4 ⟨v, rfl, ho, hb3⟩
    obtain ⟨ao2, cap2, e2, hao⟩ := ho.form
    have e3 : v = .slice ao2 1 cap2 := e2
    subst e3
    obtain ⟨g, rfl⟩ := hao (Nat.lt_succ_self 0)
    go_wp2_with fail
    refine (hj _ (HR.out.below hb3)).mono ?_
    rintro e w5 ⟨rfl, hb4⟩
    have hc0 : w5.cell? ⟨g, 0, none⟩ = some (.string J) := (ho.below hb4 (Nat.le_refl _)).cell 0 _ rfl
    go_wp2_with fail
    refine (caw _).mono ?_
    rintro e w6 ⟨rfl, hb5⟩
    go_wp2_with fail
    go_ret
    exact ⟨rfl, bchain (bchain hb3 hb4) hb5⟩
  · have hne : (((Par.wrap wd ws).length : Int) == 1) = false := by rw [beq_eq_false_iff_ne]; omega
    have hne2 : (((Par.wrap wd ws).length : Int) != 1) = true := by rw [bne_iff_ne]; omega
    clear hSJ hone hsing hjl hJs f1
    generalize Par.wrap wd ws = ls at *
    go_enter Try.func5, Try.ntmps5
    go_wp2_with fail
    refine (cg _ HW.out).mono ?_
    rintro e w3 ⟨rfl, rfl⟩
    go_wp2_with fail
    refine (cw _ HW.out).mono ?_
    rintro e w4 ⟨v, rfl, ho, hb3⟩
    obtain ⟨ao2, cap2, rfl, _⟩ := ho.form
    rw [strsL_length] at ho ⊢
    go_wp2_with fail
    refine (hj _ (HR.out.below hb3)).mono ?_
    rintro e w5 ⟨rfl, hb4⟩
    go_wp2_with fail
    refine (caw _).mono ?_
    rintro e w6 ⟨rfl, hb5⟩
    go_wp2_with fail
    go_ret
    exact ⟨by simp; omega, bchain (bchain hb3 hb4) hb5⟩
end Go.Proofs.Ytbfgjngljggbpaa
