/-
  The law Stable of paragraphs, walked.
-/
import Derived.Test.YtbfgjngljggbpaaDoorParLawW
import Derived.Test.YtbfgjngljggbpaaDoorAppStrs
namespace Go.Proofs.YtbfgjngljggbpaaDoor
open Go.RowKit

def accs (ls : List (List UInt8)) (k : Nat) : List (List UInt8) := ((ls.take k).map (Sep.spA 32 [])).flatten
theorem accs_succ {ls : List (List UInt8)} {k : Nat} {x : List UInt8} (h : ls[k]? = some x) : accs ls (k + 1) = accs ls k ++ Sep.spA 32 [] x := by
  unfold accs
  rw [List.take_add_one, h]
  simp
theorem accs_le (ls : List (List UInt8)) (k : Nat) : (accs ls k).length ≤ ((ls.map (Sep.spA 32 [])).flatten).length := by
  have h : (ls.map (Sep.spA 32 [])).flatten = accs ls k ++ ((ls.drop k).map (Sep.spA 32 [])).flatten := by
    unfold accs
    rw [← List.flatten_append, ← List.map_append, List.take_append_drop]
  rw [h, List.length_append]
  omega

set_option maxHeartbeats 4000000 in
theorem law_stable (z : Int) (hz : (Lit.int .u8 z).wf = true) (v : Value) (ws : List (List UInt8)) (w : World) (hW : Words w v ws) :
    Calls Tryd.prog 3 #[v, .int .u8 z] w fun e w' => e = .returned (.bool true) ∧ Below w.heap.size w w' := by
  obtain ⟨wd, e1, w1, w2, n, rfl, hn⟩ := width_of hz 200 (by decide) (by decide)
  have e1 : ((n : Int) % 200 + 1) = wd := e1
  have caw := fun w => awake50_any w
  have cg := fun w hW => greatW v ws w hW
  have cw := fun w hW => wrapW v ws wd w hW w1
  have HW := Lib.hid hW
  obtain ⟨ao, cap, rfl, _, _, _, hbk⟩ := hW
  clear hz
  by_cases hg : 800 < totalL ws
  · rw [decide_eq_true hg] at cg
    clear hg
    go_enter Tryd.func3, Tryd.ntmps3
    go_wp2_with fail
    refine (cg _ HW.out).mono ?_
    rintro e w3 ⟨rfl, rfl⟩
    go_wp2_with fail
    refine (caw _).mono ?_
    rintro e w3 ⟨rfl, hb3⟩
    go_wp2_with fail
    go_ret
    exact ⟨rfl, hb3⟩
  rw [decide_eq_false hg] at cg
  clear hg
  rcases perr_int ws wd with hE | hE
  rotate_left
  · generalize Par.perr ws wd = E at *
    go_enter Tryd.func3, Tryd.ntmps3
    go_wp2_with fail
    refine (cg _ HW.out).mono ?_
    rintro e w3 ⟨rfl, rfl⟩
    go_wp2_with fail
    refine (cw _ HW.out).mono ?_
    rintro e w3 ⟨v, rfl, ho, hb3⟩
    go_wp2_with fail
    refine (caw _).mono ?_
    rintro e w4 ⟨rfl, hb4⟩
    go_wp2_with fail
    go_ret
    exact ⟨rfl, bchain hb3 hb4⟩
  have hpv : parV ws wd = Par.wrap wd ws := by rw [parV, if_pos hE]; rfl
  rw [hE, hpv] at cw
  obtain ⟨s1, s2⟩ := Par.stable_law hE
  have hsp := Par.line_split hE
  have hple := Par.pieces_le (w := wd) w1 ws
  have hpc : (Par.pieces wd ws).length ≤ 1048576 := by
    have h2 := Par.pieces_count (w := wd) w1 ws
    have h3 : (ws.map fun x => x.length + 1).sum ≤ 1048576 := hbk
    omega
  have hpp : Par.pieces wd (Par.pieces wd ws) = Par.pieces wd ws := Par.pieces_of_le hple
  have cw2 := fun ao n cap w (hr : Strs w ao n (Par.pieces wd ws)) => wrap_ok ao n cap (Par.pieces wd ws) wd w hr (by have := hr.1; omega) (fun x hx => by have := hple x hx; omega) s1 (by rw [hpp]; omega)
  rw [s2] at cw2
  have hle := Par.lines_le (w := wd) (K := 200) w2 (ps := Par.pieces wd ws) (fun p hp => Nat.le_trans (hple p hp) w2)
  have hle2 : ∀ x ∈ Par.wrap wd ws, x.length ≤ 200 := hle
  have HL := Lib.hid hle2
  have hcnt : (Par.wrap wd ws).length ≤ 1048576 := by
    have h1 : (Par.wrap wd ws).length ≤ (Par.pieces wd ws).length := Par.lines_count wd (Par.pieces wd ws)
    omega
  have hacc := fun k => accs_le (Par.wrap wd ws) k
  rw [hsp] at hacc
  have HAL := Lib.hid hacc
  have HAS := Lib.hid fun k x h => accs_succ (ls := Par.wrap wd ws) (k := k) (x := x) h
  have hae : accs (Par.wrap wd ws) (Par.wrap wd ws).length = Par.pieces wd ws := by
    unfold accs
    rw [List.take_length, hsp]
  have HAE := Lib.hid hae
  clear hpv hE hle hle2 hacc hae hsp hpp s1 s2 hple hbk
  generalize Par.pieces wd ws = ps at *
  generalize Par.wrap wd ws = ls at *
  go_enter Tryd.func3, Tryd.ntmps3
  go_wp2_with fail
  refine (cg _ HW.out).mono ?_
  rintro e w3 ⟨rfl, rfl⟩
  go_wp2_with fail
  refine (cw _ HW.out).mono ?_
  rintro e w4 ⟨v, rfl, ho, hb3⟩
  obtain ⟨ao2, cap2, rfl, hao⟩ := ho.form
  rw [strsL_length] at ho hao ⊢
  go_wp2_with fail
  go_loopw [8, 31] (fun out i wr => ∃ k : Nat, k ≤ ls.length ∧ i = .int .i64 k ∧ Own wr w4.heap.size 9 out (strsL (accs ls k)) ∧ Below w4.heap.size w4 wr) (fun _ i _ => ls.length - (intOf i).toNat)
  case atStart => exact ⟨0, Nat.zero_le _, rfl, Own.nil _ _ _, Below.refl _ _⟩
  case round =>
    obtain ⟨k, hk, rfl, hown, hb⟩ := hrel
    by_cases hlt : k < ls.length
    · obtain ⟨x, hx⟩ : ∃ x, ls[k]? = some x := ⟨_, List.getElem?_eq_getElem hlt⟩
      obtain ⟨g, rfl⟩ := hao (by omega)
      have hcell := (ho.below hb (Nat.le_refl _)).cell k _ (strsL_get ls k x hx)
      have hst := HAS.out k x hx
      have hlen := HAL.out (k + 1)
      have hxl := HL.out x (List.mem_of_getElem? hx)
      have hX : (⟨x.toArray⟩ : ByteArray).size = x.length := mk_size x
      have hXd : (⟨x.toArray⟩ : ByteArray).data.toList = x := rfl
      rw [hst, List.length_append] at hlen
      have hsp := fun w => split_any ⟨x.toArray⟩ 32 w (by omega)
      rw [hXd] at hsp
      have HST := Lib.hid hst
      generalize (⟨x.toArray⟩ : ByteArray) = X at *
      clear hst hX hXd hx
      go_wp2_with fail
      refine (hsp _).mono ?_
      rintro e w5 ⟨v5, rfl, ho5, hb5⟩
      have hown5 := hown.below hb5 (Nat.le_refl _)
      have hb6 := bchain hb hb5
      go_wp2_with (at_builtin; refine wpList_appStrs rfl _ _ rfl w4.heap.size _ _ rfl hown5 wr.heap.size _ _ rfl ho5 (by omega) hb6.size ?_; intro v6 w6 hown6 hb7 _)
      rw [← HST.out] at hown6
      go_roundw
      case rel => exact ⟨k + 1, by omega, by go_num, hown6, hb6.trans hb7⟩
      case measure => simp [intOf]; omega
    · obtain rfl : k = ls.length := by omega
      rw [HAE.out] at hown
      obtain ⟨ao6, cap6, rfl, _⟩ := hown.form
      rw [strsL_length] at hown ⊢
      go_wp2_with fail
      refine (cw2 _ _ _ _ hown.read).mono ?_
      rintro e w7 ⟨v7, rfl, ho7, hb7⟩
      obtain ⟨ao7, cap7, rfl, _⟩ := ho7.form
      rw [strsL_length] at ho7 ⊢
      have hsm := same02_any ao2 ao7 ls.length cap2 ls.length cap7 ls ls w7 ((ho.below hb (Nat.le_refl _)).below hb7 (Nat.le_refl _)).read ho7.read (by omega) (by omega)
      rw [beq_self_eq_true] at hsm
      have hb8 := bchain (bchain hb3 hb) hb7
      go_wp2_with fail
      refine hsm.mono ?_
      rintro e w8 ⟨rfl, q, rfl⟩
      go_wp2_with fail
      refine (caw _).mono ?_
      rintro e w9 ⟨rfl, hb9⟩
      go_wp2_with fail
      go_ret
      exact ⟨rfl, bchain (below_drewN hb8 q) hb9⟩
end Go.Proofs.YtbfgjngljggbpaaDoor
