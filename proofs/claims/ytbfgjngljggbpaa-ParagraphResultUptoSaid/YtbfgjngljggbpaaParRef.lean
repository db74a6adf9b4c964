/-
  The reference's check and Wrap of paragraphs.
-/
import Derived.Test.YtbfgjngljggbpaaParHead
import Derived.Test.YtbfgjngljggbpaaAppNew
namespace Go.Proofs.Ytbfgjngljggbpaa
open Go.RowKit

set_option maxHeartbeats 1000000 in
theorem rcheck_any (ao : Option Addr) (n cap : Nat) (ws : List (List UInt8)) (width : Int) (w : World) (hr : Strs w ao n ws) (hn : n ≤ 9223372036854775807) (hall : ∀ x ∈ ws, x.length ≤ 9223372036854775807) :
    Calls Try.prog 29 #[.slice ao n cap, .int .i64 width] w fun e w' => e = .returned (.int .i64 (Par.perr ws width)) ∧ w = w' := by
  obtain ⟨rfl, hr⟩ := hr
  by_cases h1 : width < 1
  · rw [Par.perr, if_pos (.inl h1)]
    go_enter Try.func29, Try.ntmps29
    go_wp2_with fail
    go_ret
    exact ⟨rfl, rfl⟩
  by_cases h2 : 200 < width
  · rw [Par.perr, if_pos (.inr h2)]
    go_enter Try.func29, Try.ntmps29
    go_wp2_with fail
    go_ret
    exact ⟨rfl, rfl⟩
  obtain ⟨E, hE⟩ : ∃ E, Par.perr ws width = E := ⟨_, rfl⟩
  have hE2 : (if ws.all Par.validB then 0 else 1) = E := by
    have h := hE
    rw [Par.perr, if_neg (by omega)] at h
    exact h
  have HE := Lib.hid hE2
  rw [hE]
  have HR := Lib.hid hr
  have HA := Lib.hid hall
  clear hE hE2 hr hall
  go_enter Try.func29, Try.ntmps29
  go_wp2_with fail
  go_loop [5] (fun i => ∃ k : Nat, k ≤ ws.length ∧ i = .int .i64 k ∧ Hid ((ws.take k).all Par.validB = true)) (fun i => ws.length - (intOf i).toNat)
  case atStart => exact ⟨0, Nat.zero_le _, rfl, Lib.hid rfl⟩
  case round =>
    obtain ⟨k, hk, rfl, hok⟩ := hrel
    by_cases hlt : k < ws.length
    · obtain ⟨x, hx⟩ : ∃ x, ws[k]? = some x := ⟨_, List.getElem?_eq_getElem hlt⟩
      obtain ⟨b1, o1, rfl, hc1⟩ := HR.out k x hx
      have HS := Lib.hid (all_succ Par.validB ws k x hx)
      have hzX : (⟨x.toArray⟩ : ByteArray).size ≤ 9223372036854775807 := by rw [mk_size]; exact HA.out x (List.mem_of_getElem? hx)
      have e1 : (⟨x.toArray⟩ : ByteArray).data.toList = x := rfl
      rw [← e1] at HS
      clear e1 hx
      generalize (⟨x.toArray⟩ : ByteArray) = X at *
      have hbad : Par.validB X.data.toList = false → E = 1 := fun hv => by
        rw [← HE.out, all_false Par.validB ws (k + 1) (by rw [HS.out, hv]; simp)]
        rfl
      have hiE := isEmpty_iff50 X
      cases he : X.toList.isEmpty
      rotate_left
      · have hf : E = 1 := hbad (by unfold Par.validB; rw [← hiE, he]; rfl)
        subst hf
        clear hbad hiE
        go_wp2_with fail
        go_ret
        exact ⟨rfl, rfl⟩
      · have HV : Hid (Par.validB X.data.toList = X.data.toList.all Par.okB) := by
          show _ = _
          unfold Par.validB
          rw [← hiE, he]
          simp
        have HB := Lib.hid hbad
        clear hbad hiE
        go_wp2_with fail
        go_loop [6] (fun j => ∃ m : Nat, m ≤ X.size ∧ j = .int .i64 m ∧ Hid ((X.data.toList.take m).all Par.okB = true)) (fun j => X.size - (intOf j).toNat)
        case atStart => exact ⟨0, Nat.zero_le _, rfl, Lib.hid rfl⟩
        case round =>
          obtain ⟨m, hm, rfl, hom⟩ := hrel
          by_cases hml : m < X.size
          · have HS2 := Lib.hid (okB_succ X m hml)
            have HC : Hid (Par.okB X[m] = (decide (33 ≤ X[m].toNat) && decide (X[m].toNat ≤ 126))) := Lib.hid rfl
            by_cases h1 : X[m].toNat < 33
            · have hf : E = 1 := HB.out (by rw [HV.out, okB_take X (m + 1) (by rw [HS2.out, HC.out, decide_eq_false (by omega)]; simp)])
              subst hf
              go_wp2_with fail
              go_ret
              exact ⟨rfl, rfl⟩
            · by_cases h3 : 126 < X[m].toNat
              · have hf : E = 1 := HB.out (by rw [HV.out, okB_take X (m + 1) (by rw [HS2.out, HC.out, decide_eq_false (p := X[m].toNat ≤ 126) (by omega)]; simp)])
                subst hf
                go_wp2_with fail
                go_ret
                exact ⟨rfl, rfl⟩
              · have hnext : Hid ((X.data.toList.take (m + 1)).all Par.okB = true) := by
                  show _ = true
                  rw [HS2.out, hom.out, HC.out, decide_eq_true (p := 33 ≤ X[m].toNat) (by omega), decide_eq_true (p := X[m].toNat ≤ 126) (by omega)]
                  rfl
                go_wp2_with fail
                go_round
                case rel => exact ⟨m + 1, by omega, by go_num, hnext⟩
                case measure => simp [intOf]; omega
          · obtain rfl : m = X.size := by omega
            have h := hom.out
            rw [List.take_of_length_le (by rw [toList_length]; omega)] at h
            have hnext : Hid ((ws.take (k + 1)).all Par.validB = true) := by
              show _ = true
              rw [HS.out, hok.out, HV.out, h]
              rfl
            clear h
            go_wp2_with fail
            go_round
            case rel => exact ⟨k + 1, by omega, by go_num, hnext⟩
            case measure => simp [intOf]; omega
    · obtain rfl : k = ws.length := by omega
      have h := hok.out
      rw [List.take_length] at h
      have hf : E = 0 := by rw [← HE.out, h]; rfl
      subst hf
      clear h
      go_wp2_with fail
      go_ret
      exact ⟨rfl, rfl⟩
theorem ne_after {W : World} {B n c g5 : Nat} {E : TypeId} {out v' : Value} {xs : List Value} (hP : Own W B E (.slice (some ⟨g5, 0, none⟩) n c) xs) (hne : out.ownBlock ≠ some g5) (h : v'.ownBlock = out.ownBlock ∨ ∃ k, v'.ownBlock = some k ∧ W.heap.size ≤ k) :
    ∀ g, (some (⟨g5, 0, none⟩ : Addr)) = some ⟨g, 0, none⟩ → v'.ownBlock ≠ some g := by
  intro g e
  injection e with e1
  injection e1 with e2
  subst e2
  rcases h with e | ⟨k, e, hk⟩
  · rw [e]; exact hne
  · rw [e]
    intro e3
    injection e3 with e4
    have := hP.lt.2
    omega

set_option maxHeartbeats 2000000 in
theorem rwrap_any (v : Value) (ws : List (List UInt8)) (width : Int) (w : World) (hW : Words w v ws) :
    Calls Try.prog 17 #[v, .int .i64 width] w fun e w' => ∃ v, e = .returned (.tuple #[v, .int .i64 (Par.perr ws width)]) ∧ Own w' w.heap.size 9 v (strsL (parV ws width)) ∧ Below w.heap.size w w' := by
  have hbk : bulkL ws ≤ 1048576 := by obtain ⟨_, _, _, _, _, _, hb⟩ := hW; exact hb
  have HW := Lib.hid hW
  obtain ⟨ao, cap, rfl, _, _, hr, _⟩ := hW
  have hlen := bulkL_len ws
  have hck := rcheck_any ao ws.length cap ws width w hr (by omega) (fun x hx => by have := bulkL_mem hx; omega)
  clear hr
  have hEE : Par.perr ws width = 0 ∨ (Par.perr ws width != 0) = true := by
    rcases Classical.em (Par.perr ws width = 0) with h | h
    · exact .inl h
    · exact .inr (by simpa using h)
  rcases hEE with hE | hE
  rotate_left
  · have hp : parV ws width = [] := if_neg (by simpa using hE)
    rw [hp]
    generalize Par.perr ws width = E at *
    go_enter Try.func17, Try.ntmps17
    go_wp2_with fail
    refine hck.mono ?_
    rintro e w3 ⟨rfl, rfl⟩
    go_wp2_with fail
    go_ret2
    exact ⟨_, rfl, Own.made0 _ _ _ (Nat.le_refl _), (Below.refl _ _).alloc (Nat.le_refl _) _⟩
  obtain ⟨wd, rfl, w1, w2⟩ : ∃ wd : Nat, width = wd ∧ 1 ≤ wd ∧ wd ≤ 200 := by
    unfold Par.perr at hE
    refine ⟨width.toNat, ?_⟩
    split at hE <;> omega
  have hpv : parV ws wd = Par.lines wd (Par.pieces wd ws) := by rw [parV, if_pos hE]; rfl
  rw [hE] at hck
  rw [hE, hpv]
  have cp := fun w hW => parts_any (.slice ao ws.length cap) ws wd w hW w1 w2
  have hple := Par.pieces_le (w := wd) w1 ws
  have hpc : (Par.pieces wd ws).length ≤ 1048576 := by
    have h2 := Par.pieces_count (w := wd) w1 ws
    have h3 : (ws.map fun x => x.length + 1).sum ≤ 1048576 := hbk
    omega
  clear hE hpv
  generalize Par.pieces wd ws = ps at *
  have HL := Lib.hid hple
  have HLL := Lib.hid fun (k : Nat) => Par.lines_le (w := wd) (K := 200) w2 (ps := ps.take k) (fun p hp => Nat.le_trans (hple p (List.mem_of_mem_take hp)) w2)
  have HC := Lib.hid fun (k : Nat) => Par.lines_count wd (ps.take k)
  have HS := Lib.hid fun (k : Nat) (x : List UInt8) (h : ps[k]? = some x) => (by rw [List.take_add_one, h]; exact Par.lines_snoc wd (ps.take k) x : Par.lines wd (ps.take (k + 1)) = Par.step wd (Par.lines wd (ps.take k)) x)
  have HE : Hid (Par.lines wd (ps.take ps.length) = Par.lines wd ps) := by show _ = _; rw [List.take_length]
  have ha1 : Below w.heap.size w (w.alloc (.cells #[] 9)) := (Below.refl _ w).alloc (Nat.le_refl _) _
  have hmade : Own (w.alloc (.cells #[] 9)) w.heap.size 9 (.slice (some ⟨w.heap.size, 0, none⟩) 0 0) (strsL []) := Own.made0 _ _ _ (Nat.le_refl _)
  clear hple
  go_enter Try.func17, Try.ntmps17
  go_wp2_with fail
  refine hck.mono ?_
  rintro e w3 ⟨rfl, rfl⟩
  go_wp2_with fail
  refine (cp _ (HW.out.below ha1)).mono ?_
  rintro e w5 ⟨v5, rfl, ho5, hb5⟩
  obtain ⟨ao5, cap5, rfl, hao5⟩ := ho5.form
  rw [strsL_length] at ho5 hao5 ⊢
  have hb05 := bchain ha1 hb5
  have hmade5 := hmade.below hb5 (Nat.le_refl _)
  go_wp2_with fail
  go_loopw [7, 9] (fun out i wr => ∃ k : Nat, k ≤ ps.length ∧ i = .int .i64 k ∧ Own wr w.heap.size 9 out (strsL (Par.lines wd (ps.take k))) ∧ Own wr (w.alloc (.cells #[] 9)).heap.size 9 (.slice ao5 ps.length cap5) (strsL ps) ∧ (∀ g, ao5 = some ⟨g, 0, none⟩ → out.ownBlock ≠ some g) ∧ Below w.heap.size w wr) (fun _ i _ => ps.length - (intOf i).toNat)
  case atStart =>
    refine ⟨0, Nat.zero_le _, rfl, hmade5, ho5, ?_, hb05⟩
    rintro g rfl he
    have hlt := ho5.lt
    simp [Value.ownBlock] at he
    simp at hlt
    omega
  case round =>
    obtain ⟨k, hk, rfl, hown, hps, hne, hb⟩ := hrel
    by_cases hlt : k < ps.length
    · obtain ⟨x, hx⟩ : ∃ x, ps[k]? = some x := ⟨_, List.getElem?_eq_getElem hlt⟩
      obtain ⟨g5, rfl⟩ := hao5 (by omega)
      have hne5 := hne g5 rfl
      have hcell := hps.cell k _ (strsL_get ps k x hx)
      have hst := HS.out k x hx
      have hll := HLL.out k
      have hcn := HC.out k
      rw [List.length_take] at hcn
      have hxl : (⟨x.toArray⟩ : ByteArray).size ≤ 200 := by rw [mk_size]; exact Nat.le_trans (HL.out x (List.mem_of_getElem? hx)) w2
      have e1 : (⟨x.toArray⟩ : ByteArray).data.toList = x := rfl
      rw [← e1] at hst
      clear e1 hx hne
      generalize (⟨x.toArray⟩ : ByteArray) = X at *
      generalize Par.lines wd (ps.take k) = xs at *
      have HST := Lib.hid hst
      clear hst
      rcases Par.snoc_cases xs with rfl | ⟨ys, y, rfl⟩
      · obtain ⟨ao2, cap2, e2, _⟩ := hown.form
        have e3 : u7 = .slice ao2 0 cap2 := e2
        subst e3
        clear e2
        have hnext : Hid (Par.lines wd (ps.take (k + 1)) = [] ++ [X.data.toList]) := by show _ = _; rw [HST.out, Par.step_nil]; rfl
        go_wp2_with fail
        go_quiet (fail)
        have r2 : Own (wr.drewN nq) w.heap.size 9 _ (strsL []) := hown
        have P2 : Own (wr.drewN nq) _ 9 _ (strsL ps) := hps
        have b2 := below_drewN hb nq
        have c2 : (wr.drewN nq).cell? ⟨g5, k, none⟩ = some (.string X) := hcell
        clear hown hps hb hcell
        generalize wr.drewN nq = W2 at *
        go_wp2_with (at_builtin; refine wpList_app1n 9 22 _ 16 info_str Try.underlying22 rfl rfl _ _ rfl _ _ _ rfl r2 _ rfl rfl (by decide) (by decide) b2.size ?_; intro v' w3 hown3 hb4 hg4 hblk)
        rw [strsL_snoc', ← hnext.out] at hown3
        go_roundw
        case rel => exact ⟨k + 1, by omega, by go_num, hown3, P2.grown hg4 (.inr fun e => hne5 e.symm), ne_after P2 hne5 hblk, b2.trans hb4⟩
        case measure => simp [intOf]; omega
      · obtain ⟨ao2, cap2, e2, hao⟩ := hown.form
        have e4 : (strsL (ys ++ [y])).length = ys.length + 1 := by rw [strsL_length]; simp
        rw [e4] at e2 hao
        obtain ⟨g, rfl⟩ := hao (by omega)
        subst e2
        have hyl := hll y (by simp)
        have hlc := hown.cell ys.length (.string ⟨y.toArray⟩) (strsL_get _ _ _ (by simp))
        have hYs : (⟨y.toArray⟩ : ByteArray).size = y.length := mk_size y
        have hYd : (⟨y.toArray⟩ : ByteArray).data.toList = y := rfl
        have HYd := Lib.hid hYd
        have hstep := Par.step_snoc wd ys y X.data.toList
        rw [← HST.out, toList_length] at hstep
        have hcn1 : ys.length + 1 ≤ 1048576 := by simp at hcn; omega
        generalize (⟨y.toArray⟩ : ByteArray) = Y at *
        by_cases hfit : Y.size + 1 + X.size ≤ wd
        · rw [if_pos (by omega)] at hstep
          have HNX := Lib.hid hstep
          clear hstep hYd hcn hll hao
          go_wp2_with fail
          go_quiet (fail)
          have r2 : Own (wr.drewN nq) w.heap.size 9 _ _ := hown
          have P2 : Own (wr.drewN nq) _ 9 _ (strsL ps) := hps
          have b2 := below_drewN hb nq
          have c2 : (wr.drewN nq).cell? ⟨g5, k, none⟩ = some (.string X) := hcell
          have l2 : (wr.drewN nq).cell? ⟨g, ys.length, none⟩ = some (.string Y) := hlc
          clear hown hps hb hcell hlc
          generalize wr.drewN nq = W2 at *
          have hfr := r2.frozen ys.length
          go_wp2_with fail
          go_region
          have hln : (strsL (ys ++ [y])).set ys.length (.string (Y ++ ⟨#[32]⟩ ++ X)) = strsL (Par.lines wd (ps.take (k + 1))) := by
            rw [HNX.out, ← strsL_snoc, ← strsL_snoc, ← strsL_length ys, List.set_append_right _ _ (Nat.le_refl _), Nat.sub_self, List.set_cons_zero]
            refine congrArg (fun z => _ ++ [Value.string z]) (of_toList ?_)
            rw [app_data, app_data, HYd.out, List.append_assoc]
            rfl
          generalize Y ++ ⟨#[32]⟩ ++ X = S at *
          have hgg : g ≠ g5 := fun e => hne5 (by rw [e]; rfl)
          have r3 := r2.store ys.length (.string S)
          rw [hln] at r3
          have P3 := P2.far (p := ⟨g, ys.length, none⟩) (fun g' e => by
            have e2 : some g5 = some g' := e
            injection e2 with e3
            rw [← e3]
            exact fun h => hgg h.symm) (.string S)
          have b3 := Below.drew (b2.setCell (p := ⟨g, ys.length, none⟩) r2.lt.1 (.string S))
          have r4 : Own (W2.setCell ⟨g, ys.length, none⟩ (.string S)).drew _ 9 _ _ := r3
          have P4 : Own (W2.setCell ⟨g, ys.length, none⟩ (.string S)).drew _ 9 _ _ := P3
          clear r3 P3 hln
          generalize (W2.setCell ⟨g, ys.length, none⟩ (.string S)).drew = W3 at *
          go_wp2_with fail
          go_roundw
          case rel => exact ⟨k + 1, by omega, by go_num, r4, P4, fun g' e e2 => hne5 (by injection e with e1; injection e1 with e3; rw [e3]; exact e2), b3⟩
          case measure => simp [intOf]; omega
        · rw [if_neg (by omega)] at hstep
          have HNX := Lib.hid hstep
          clear hstep hYd hcn hll hao
          go_wp2_with fail
          go_quiet (fail)
          have r2 : Own (wr.drewN nq) w.heap.size 9 _ _ := hown
          have P2 : Own (wr.drewN nq) _ 9 _ (strsL ps) := hps
          have b2 := below_drewN hb nq
          have c2 : (wr.drewN nq).cell? ⟨g5, k, none⟩ = some (.string X) := hcell
          clear hown hps hb hcell hlc
          generalize wr.drewN nq = W2 at *
          go_wp2_with (at_builtin; refine wpList_app1n 9 22 _ 16 info_str Try.underlying22 rfl rfl _ _ rfl _ _ _ rfl r2 _ rfl rfl (by omega) (by omega) b2.size ?_; intro v' w3 hown3 hb4 hg4 hblk)
          rw [strsL_snoc', ← HNX.out] at hown3
          go_roundw
          case rel => exact ⟨k + 1, by omega, by go_num, hown3, P2.grown hg4 (.inr fun e => hne5 e.symm), ne_after P2 hne5 hblk, b2.trans hb4⟩
          case measure => simp [intOf]; omega
    · obtain rfl : k = ps.length := by omega
      rw [HE.out] at hown
      go_wp2_with fail
      go_ret2
      exact ⟨_, rfl, hown, hb⟩
end Go.Proofs.Ytbfgjngljggbpaa
