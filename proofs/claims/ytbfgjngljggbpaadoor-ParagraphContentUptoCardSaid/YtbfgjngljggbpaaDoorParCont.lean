/-
  What the lines hold (Content).
-/
import Derived.Test.YtbfgjngljggbpaaDoorParContP
import Derived.Test.YtbfgjngljggbpaaDoorParLawW
import Derived.Test.YtbfgjngljggbpaaDoorJoinW
import Derived.Test.YtbfgjngljggbpaaDoorShelf
namespace Go.Proofs.YtbfgjngljggbpaaDoor
open Go.RowKit

/-- strings.Join at any separator. -/
theorem join_sep (ao : Option Addr) (n c : Nat) (xs : List (List UInt8)) (sep : ByteArray) (w : World) (hr : Strs w ao n xs) (hN : xs.length ≤ 140737488355328) (hcap : xs.length ≤ c) (hlen : (Lib.join xs sep.data.toList).length ≤ 140737488355328) :
    Calls Tryd.prog 13 #[.slice ao n c, .string sep] w fun e w' => e = .returned (.string ⟨(Lib.join xs sep.data.toList).toArray⟩) ∧ Below w.heap.size w w' := by
  obtain ⟨rfl, hao⟩ := hr
  match xs, hao, hN, hcap, hlen with
  | [], _, _, _, _ => exact (join_none _ c _ w).mono fun e w' ⟨he, hw⟩ => ⟨he, hw ▸ Below.refl _ _⟩
  | [x], hao, _, _, _ =>
    obtain ⟨bk, o, rfl, hc⟩ := hao 0 x rfl
    refine (join_one bk o c ⟨x.toArray⟩ _ w hc).mono fun e w' ⟨he, hw⟩ => ⟨?_, hw ▸ Below.refl _ _⟩
    rw [he, Lib.join_one]
  | x :: y :: r, hao, hN, hcap, hlen =>
    obtain ⟨bk, o, rfl, hc⟩ := hao 0 x rfl
    have h := join_many bk o c ((x :: y :: r).map fun x => ⟨x.toArray⟩) sep w (fun j z hz => by
      rw [List.getElem?_map] at hz
      obtain ⟨z', hz', rfl⟩ := Option.map_eq_some_iff.1 hz
      obtain ⟨bk', o', e, hc'⟩ := hao j z' hz'
      injection e with e
      injection e with e1 e2
      subst e1 e2
      exact hc') (World.block_lt_of_cell? _ _ hc) (by simp) (by simpa using hN) (by simpa using hcap) (by rw [map_strs]; exact hlen)
    rw [map_strs, List.length_map] at h
    exact h
theorem flat_le {K : Nat} : ∀ {ls : List (List UInt8)}, (∀ x ∈ ls, x.length ≤ K) → ls.flatten.length ≤ K * ls.length
  | [], _ => Nat.zero_le _
  | x :: r, h => by
    have h1 := h x (by simp)
    have h2 := flat_le (ls := r) fun y hy => h y (by simp [hy])
    simp only [List.flatten_cons, List.length_append, List.length_cons, Nat.mul_succ]
    omega
theorem flat_bulk : ∀ ws : List (List UInt8), ws.flatten.length ≤ bulkL ws
  | [] => Nat.zero_le _
  | x :: r => by
    have h := flat_bulk r
    simp only [bulkL, List.flatten_cons, List.length_append, List.map_cons, List.sum_cons] at h ⊢
    omega

set_option maxRecDepth 100000 in
set_option maxHeartbeats 2000000 in
theorem law_content (z : Int) (hz : (Lit.int .u8 z).wf = true) (v : Value) (ws : List (List UInt8)) (w : World) (hW : Words w v ws) (m : Int) (hm : w.cell? ⟨0, 0, none⟩ = some (.int .i64 m)) :
    Calls Tryd.prog 4 #[v, .int .u8 z] w fun e w' => e = .returned (.bool true) ∧ Below w.heap.size w w' := by
  obtain ⟨wd, e1, w1, w2, n, rfl, hn⟩ := width_of hz 200 (by decide) (by decide)
  have e1 : ((n : Int) % 200 + 1) = wd := e1
  have caw := fun w => awake50_any w
  have cg := fun w hW => greatW v ws w hW
  have cw := fun w hW => wrapW v ws wd w hW w1
  have HW := Lib.hid hW
  obtain ⟨ao, cap, rfl, hcap, _, hr0, hbk⟩ := hW
  have HR := Lib.hid hr0
  have hlt0 : 0 < w.heap.size := World.block_lt_of_cell? _ _ hm
  clear hz hr0
  by_cases hg : 800 < totalL ws
  · rw [decide_eq_true hg] at cg
    clear hg
    go_enter Tryd.func4, Tryd.ntmps4
    go_wp2_with fail
    refine (cg _ HW.out).mono ?_
    rintro e w3 ⟨rfl, rfl⟩
    go_wp2_with fail
    refine (caw _).mono ?_
    rintro e w3 ⟨rfl, hb3⟩
    go_wp2_with fail
    go_ret
    exact ⟨rfl, hb3⟩
  rw [decide_eq_false hg] at cg
  clear hg
  rcases perr_int ws wd with hE | hE
  rotate_left
  · have hp : parV ws wd = [] := if_neg (by simpa using hE)
    rw [hp] at cw
    have hz : (strsL []).length = 0 := rfl
    generalize Par.perr ws wd = E at *
    go_enter Tryd.func4, Tryd.ntmps4
    go_wp2_with fail
    refine (cg _ HW.out).mono ?_
    rintro e w3 ⟨rfl, rfl⟩
    go_wp2_with fail
    refine (cw _ HW.out).mono ?_
    rintro e w3 ⟨v, rfl, ho, hb3⟩
    obtain ⟨ao3, cap3, rfl, _⟩ := ho.form
    rw [hz]
    go_wp2_with fail
    refine (caw _).mono ?_
    rintro e w4 ⟨rfl, hb4⟩
    go_wp2_with fail
    go_ret
    exact ⟨rfl, bchain hb3 hb4⟩
  have hpv : parV ws wd = Par.wrap wd ws := by rw [parV, if_pos hE]; rfl
  rw [hE, hpv] at cw
  have hgood := Par.lines_good hE
  have hlaw := Par.content_law hE
  have hcnt : (Par.wrap wd ws).length ≤ 1048576 := by
    have h1 : (Par.wrap wd ws).length ≤ (Par.pieces wd ws).length := Par.lines_count wd (Par.pieces wd ws)
    have h2 := Par.pieces_count (w := wd) w1 ws
    have h3 : (ws.map fun x => x.length + 1).sum ≤ 1048576 := hbk
    omega
  clear hpv hE
  generalize Par.wrap wd ws = ls at *
  have HG := Lib.hid hgood
  have hfl := flat_le (K := 200) (ls := ls) (fun x hx => Nat.le_trans (hgood x hx).2.1 w2)
  have hfw := flat_bulk ws
  have hlw := bulkL_len ws
  have hj1 := fun ao c w hr hc => join_sep ao ls.length c ls ⟨#[]⟩ w hr (by omega) hc (by show (Lib.join ls []).length ≤ _; rw [Par.join_empty]; omega)
  have hj2 := fun w hr => join_sep ao ws.length cap ws ⟨#[]⟩ w hr (by omega) hcap (by show (Lib.join ws []).length ≤ _; rw [Par.join_empty]; omega)
  have hsz : (⟨(Lib.join ls []).toArray⟩ : ByteArray).size ≤ 209715200 := by rw [mk_size, Par.join_empty]; omega
  have hrep := fun w hm => Tryd.strings_ReplaceAll ⟨(Lib.join ls []).toArray⟩ ⟨#[32]⟩ ⟨#[]⟩ m w (by omega) hm (by decide) (by show _ + _ * 0 ≤ _; omega)
  have e3 : Lib.replaceAll (⟨(Lib.join ls []).toArray⟩ : ByteArray).data.toList (⟨#[32]⟩ : ByteArray).data.toList (⟨#[]⟩ : ByteArray).data.toList = Lib.join ws [] := hlaw
  rw [e3] at hrep
  have hj1' : ∀ (ao : Option Addr) (c : Nat) (w : World), Strs w ao ls.length ls → ls.length ≤ c → Calls Tryd.prog 13 #[.slice ao ls.length c, .string ⟨#[]⟩] w fun e w' => e = .returned (.string ⟨(Lib.join ls []).toArray⟩) ∧ Below w.heap.size w w' := hj1
  have hj2' : ∀ (w : World), Strs w ao ws.length ws → Calls Tryd.prog 13 #[.slice ao ws.length cap, .string ⟨#[]⟩] w fun e w' => e = .returned (.string ⟨(Lib.join ws []).toArray⟩) ∧ Below w.heap.size w w' := hj2
  clear hj1 hj2 e3 hlaw hgood hsz
  generalize (⟨(Lib.join ls []).toArray⟩ : ByteArray) = J1 at *
  generalize (⟨(Lib.join ws []).toArray⟩ : ByteArray) = J2 at *
  go_enter Tryd.func4, Tryd.ntmps4
  go_wp2_with fail
  refine (cg _ HW.out).mono ?_
  rintro e w3 ⟨rfl, rfl⟩
  go_wp2_with fail
  refine (cw _ HW.out).mono ?_
  rintro e w4 ⟨v, rfl, ho, hb3⟩
  obtain ⟨ao2, cap2, rfl, hao⟩ := ho.form
  rw [strsL_length] at ho hao ⊢
  have hcp := ho.cap
  have hm4 : ∀ q, (w4.drewN q).cell? ⟨0, 0, none⟩ = some (.int .i64 m) := fun q => ((below_drewN hb3 q).cell (p := ⟨0, 0, none⟩) hlt0).trans hm
  go_wp2_with fail
  go_loopw [33] (fun i wr => ∃ k : Nat, k ≤ ls.length ∧ i = .int .i64 k ∧ ∃ q, wr = w4.drewN q) (fun i _ => ls.length - (intOf i).toNat)
  case atStart => exact ⟨0, Nat.zero_le _, rfl, 0, rfl⟩
  case round =>
    obtain ⟨k, hk, rfl, q, rfl⟩ := hrel
    by_cases hlt : k < ls.length
    · obtain ⟨x, hx⟩ : ∃ x, ls[k]? = some x := ⟨_, List.getElem?_eq_getElem hlt⟩
      obtain ⟨g, rfl⟩ := hao (by omega)
      have hcell := ((ho.drewN q).cell k _ (strsL_get ls k x hx))
      obtain ⟨g1, g2, g3, g4⟩ := HG.out x (List.mem_of_getElem? hx)
      have he : (⟨x.toArray⟩ : ByteArray).toList.isEmpty = false := by
        rw [Lib.toList_data]
        cases x with
        | nil => exact absurd rfl g1
        | cons a t => rfl
      have hxs : (⟨x.toArray⟩ : ByteArray).size ≤ wd := by rw [mk_size]; exact g2
      have hT := fun w => Tryd.strings_Trim_one ⟨x.toArray⟩ 32 (by decide) w (by omega)
      have e4 : Lib.trimB (⟨x.toArray⟩ : ByteArray).data.toList 32 = x := g3
      rw [e4] at hT
      have hC := fun w hm => Tryd.strings_Contains ⟨x.toArray⟩ ⟨#[32, 32]⟩ m w (by omega) hm
      have e5 : Lib.contains (⟨x.toArray⟩ : ByteArray).data.toList (⟨#[32, 32]⟩ : ByteArray).data.toList = false := g4
      rw [e5] at hC
      clear e4 e5 g1 g2 g3 g4 hx
      generalize (⟨x.toArray⟩ : ByteArray) = X at *
      go_wp2_with fail
      refine (hT _).mono ?_
      rintro e w5 ⟨rfl, hw5⟩
      obtain ⟨q5, rfl⟩ : ∃ q5, w5 = w4.drewN q5 := by
        rcases hw5 with rfl | rfl
        · exact ⟨q, rfl⟩
        · exact ⟨q + 1, rfl⟩
      go_wp2_with fail
      refine (hC _ (hm4 q5)).mono ?_
      rintro e w6 ⟨rfl, rfl⟩
      go_wp2_with fail
      go_roundw
      case rel => exact ⟨k + 1, by omega, by go_num, q5, rfl⟩
      case measure => simp [intOf]; omega
    · obtain rfl : k = ls.length := by omega
      have hb4 := below_drewN hb3 q
      go_wp2_with fail
      refine (hj1' _ _ _ (ho.drewN q).read hcp).mono ?_
      rintro e w5 ⟨rfl, hb5⟩
      have hb6 := bchain hb4 hb5
      go_wp2_with fail
      refine (hrep _ ((hb6.cell (p := ⟨0, 0, none⟩) hlt0).trans hm)).mono ?_
      rintro e w6 ⟨rfl, hb7⟩
      have hb8 := bchain hb6 hb7
      go_wp2_with fail
      refine (hj2' _ (HR.out.below hb8)).mono ?_
      rintro e w7 ⟨rfl, hb9⟩
      have hb10 := bchain hb8 hb9
      go_wp2_with fail
      refine (caw _).mono ?_
      rintro e w8 ⟨rfl, hb11⟩
      go_wp2_with fail
      go_ret
      exact ⟨rfl, bchain hb10 hb11⟩
end Go.Proofs.YtbfgjngljggbpaaDoor
