/-
  The law ViterbiTransitions, joined.
-/
import Derived.Test.YtnklgppfggkeoaaDoorVitLaw8
namespace Go.Proofs.YtnklgppfggkeoaaDoor
open Go.RowKit

theorem st_of (a : Nat) : ∃ p q, a % 4 = Conv.st p q := by
  have h : a % 4 = 0 ∨ a % 4 = 1 ∨ a % 4 = 2 ∨ a % 4 = 3 := by omega
  rcases h with h | h | h | h
  · exact ⟨false, false, h⟩
  · exact ⟨false, true, h⟩
  · exact ⟨true, false, h⟩
  · exact ⟨true, true, h⟩

theorem tr_bad (a0 : ByteArray) (a1 a2 : Nat) (h1 : (a0.size : Int) ≤ 300) (h4 : 4 ≤ (a0.size : Int)) (hev : ((a0.size : Int) % 2 != 0) = false) (hok : Cells.ok a0.data.toList = false) (w : World) :
    Calls Tryd.prog 6 #[.string a0, .int .u8 a1, .int .u8 a2] w fun e w' => e = .returned (.bool true) ∧ Below w.heap.size w w' := by
  have hck := fun w => check_any a0 w (by omega)
  have e1 : Cells.err a0.data.toList = 3 := by unfold Cells.err; rw [hok]; rfl
  rw [e1] at hck
  have HCK := Lib.hid hck
  clear hck e1 hok
  go_enter Tryd.func6, Tryd.ntmps6
  go_wp2_with fail
  refine (HCK.out _).mono ?_
  rintro e w1 ⟨rfl, hb1⟩
  go_wp2_with fail
  refine (awake_any _).mono ?_
  rintro e w2 ⟨rfl, hb2⟩
  go_wp2_with fail
  go_ret
  exact ⟨rfl, bchain hb1 hb2⟩

theorem tr_main (a0 : ByteArray) (a1 a2 : Nat) (ha1 : a1 < 256) (ha2 : a2 < 256) (h1 : (a0.size : Int) ≤ 300) (h4 : 4 ≤ (a0.size : Int)) (hev : ((a0.size : Int) % 2 != 0) = false) (hok : Cells.ok a0.data.toList = true) (w : World) :
    Calls Tryd.prog 6 #[.string a0, .int .u8 a1, .int .u8 a2] w fun e w' => e = .returned (.bool true) ∧ Below w.heap.size w w' := by
  have hl := toList_length a0
  have h2 : a0.size % 2 = 0 := by
    rw [bne_eq_false_iff_eq] at hev
    omega
  obtain ⟨n, hz⟩ : ∃ n, a0.size = 2 * n := ⟨a0.size / 2, by omega⟩
  have hn : 2 ≤ n := by omega
  have hn2 : n ≤ 150 := by omega
  obtain ⟨k, hk⟩ : ∃ k, a1 % n = k := ⟨_, rfl⟩
  have hkn : k < n := by rw [← hk]; exact Nat.mod_lt _ (by omega)
  have hmod : (a1 : Int) % (n : Int) = (k : Int) := by rw [← hk]; exact (Int.natCast_emod _ _).symm
  have hE : vErr a0.data.toList = 0 := Vit.err_ok hok (by omega)
  have hck := fun w => check_any a0 w (by omega)
  have e1 : Cells.err a0.data.toList = 0 := by unfold Cells.err; rw [hok]; rfl
  rw [e1] at hck
  obtain ⟨x, y, hXY, hdrop⟩ := two_at a0 k (by omega)
  obtain ⟨U, hU⟩ : ∃ U, Vit.dp (a0.data.toList.drop (2 * (k + 1))) = U := ⟨_, rfl⟩
  have hLn : (a0.data.toList.drop (2 * (k + 1))).length = 2 * (n - k - 1) := by rw [List.length_drop]; omega
  have hsm := small_dp (n - k - 1) (a0.data.toList.drop (2 * (k + 1))) hLn (by omega)
  have hsome := costs_some (n - k - 1) (a0.data.toList.drop (2 * (k + 1))) hLn
  rw [hU] at hsm hsome
  have hN := fun w => costs_ok a0 n k hz (by omega) (by omega) hE (Vit.before x y U) (by rw [hdrop, ← hU]; rfl) w
  have hA := fun w => costs_ok a0 n (k + 1) hz (by omega) (by omega) hE U hU w
  have hL := fun w => costs_ok a0 n n hz (by omega) (by omega) hE Vit.last (by rw [List.drop_eq_nil_of_le (by omega)]; rfl) w
  have hcell : Cells.ok [x, y] = true := by
    have h3 := hok
    unfold Cells.ok at h3 ⊢
    rw [List.all_eq_true] at h3 ⊢
    intro c hc
    refine h3 c (List.mem_of_mem_drop (i := 2 * k) ?_)
    rw [hdrop]
    simp only [List.mem_cons, List.not_mem_nil, or_false] at hc ⊢
    rcases hc with hc | hc
    · exact .inl hc
    · exact .inr (.inl hc)
  obtain ⟨p, q, hpq⟩ := st_of a2
  have hst : (a2 : Int) % 4 = (Conv.st p q : Nat) := by rw [← hpq]; exact (Int.natCast_emod _ _).symm
  have r0 : ∀ u, -1 ≤ (U.get u p).1 ∧ (U.get u p).1 ≤ 100000 := fun u => ⟨(hsm u p).1, (hsm u p).2.1⟩
  have hd := fun (Y : ByteArray) (u : Bool) (hY : Y.data.toList = [Conv.ch ((u ^^ p) ^^ q), Conv.ch (u ^^ q)]) => dist_two Y (a0.extract (2 * k) (2 * k + 2)) x y p q u hY hXY hcell
  have hbest := Vit.best_one x y U p q hsome
  have hn0 := fun w => next_any (Conv.st p q : Nat) 0 p q false w (by cases p <;> cases q <;> rfl) rfl
  have hn1 := fun w => next_any (Conv.st p q : Nat) 1 p q true w (by cases p <;> cases q <;> rfl) rfl
  have m0 := Vit.mis_bd x y p q false
  have m1 := Vit.mis_bd x y p q true
  have d0 := hd ⟨#[Conv.ch ((false ^^ p) ^^ q), Conv.ch (false ^^ q)]⟩ false rfl
  have d1 := hd ⟨#[Conv.ch ((true ^^ p) ^^ q), Conv.ch (true ^^ q)]⟩ true rfl
  have a0' := r0 false
  have a1' := r0 true
  clear hd hsm hsome hcell hpq hE hl h2
  cases p <;> cases q
  · exact tr_walk0 a0 _ _ _ a1 a2 n k (Vit.before x y U) U hz hn hn2 hmod hkn hst ha1 ha2 hck hN hA hL hn0 hn1 _ _ m0 m1 rfl d0 d1 _ _ _ rfl rfl a0' a1' rfl hbest w
  · exact tr_walk1 a0 _ _ _ a1 a2 n k (Vit.before x y U) U hz hn hn2 hmod hkn hst ha1 ha2 hck hN hA hL hn0 hn1 _ _ m0 m1 rfl d0 d1 _ _ _ rfl rfl a0' a1' rfl hbest w
  · exact tr_walk2 a0 _ _ _ a1 a2 n k (Vit.before x y U) U hz hn hn2 hmod hkn hst ha1 ha2 hck hN hA hL hn0 hn1 _ _ m0 m1 rfl d0 d1 _ _ _ rfl rfl a0' a1' rfl hbest w
  · exact tr_walk3 a0 _ _ _ a1 a2 n k (Vit.before x y U) U hz hn hn2 hmod hkn hst ha1 ha2 hck hN hA hL hn0 hn1 _ _ m0 m1 rfl d0 d1 _ _ _ rfl rfl a0' a1' rfl hbest w

theorem law_trans (a0 : ByteArray) (a1 a2 : Int) (_w0 : a0.size ≤ 140737488351232) (w1 : (Lit.int .u8 a1).wf = true) (w2 : (Lit.int .u8 a2).wf = true) (w : World) :
    Calls Tryd.prog 6 #[.string a0, .int .u8 a1, .int .u8 a2] w fun e w' => e = .returned (.bool true) ∧ Below w.heap.size w w' := by
  obtain ⟨k, rfl, hk⟩ := u8_nat w1
  obtain ⟨s, rfl, hs⟩ := u8_nat w2
  by_cases h1 : 300 < (a0.size : Int)
  · exact tr_early a0 k s (.inl h1) w
  by_cases h2 : (a0.size : Int) < 4
  · exact tr_early a0 k s (.inr (.inl h2)) w
  cases h3 : ((a0.size : Int) % 2 != 0)
  · cases h4 : Cells.ok a0.data.toList
    · exact tr_bad a0 k s (by omega) (by omega) h3 h4 w
    · exact tr_main a0 k s hk hs (by omega) (by omega) h3 h4 w
  · exact tr_early a0 k s (.inr (.inr h3)) w
end Go.Proofs.YtnklgppfggkeoaaDoor
