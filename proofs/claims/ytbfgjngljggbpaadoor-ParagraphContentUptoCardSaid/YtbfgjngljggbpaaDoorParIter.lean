/-
  The walks of invalid, check, pieces, and of the iterator over pieces.
-/
import Derived.Test.YtbfgjngljggbpaaDoorStrs
import Derived.Test.YtbfgjngljggbpaaDoorParPlain
import Derived.RangeFuncNested
import Derived.RangeFuncBound
import Derived.RangeFuncCalls
import Derived.RangeFuncLeaves
import Derived.Shelf.Abstract
import Derived.Shelf.RegionOpen
import Derived.OwnWalkIn
import Derived.TacticsInMore
import Derived.LoopNIn
import Derived.LoopIn
import Derived.WalkSmall
namespace Go.Proofs.YtbfgjngljggbpaaDoor
open Go.RowKit Go.Shelf
attribute [local go_sem] Oper.semAt_some

theorem isEmpty_iff50 (s : ByteArray) : s.toList.isEmpty = s.data.toList.isEmpty := by rw [Lib.toList_data]
theorem okB_succ (s : ByteArray) (k : Nat) (h : k < s.size) : (s.data.toList.take (k + 1)).all Par.okB = ((s.data.toList.take k).all Par.okB && Par.okB s[k]) := by
  rw [List.take_succ_eq_append_getElem (by rw [toList_length]; exact h)]
  simp only [List.all_append, List.all_cons, List.all_nil, Bool.and_true]
  rfl
theorem okB_take (s : ByteArray) (k : Nat) (h : (s.data.toList.take k).all Par.okB = false) : s.data.toList.all Par.okB = false := by
  rw [← List.take_append_drop k s.data.toList, List.all_append, h]
  rfl

set_option maxHeartbeats 1000000 in
theorem invalid_any (s : ByteArray) (w : World) (hs : s.size ≤ 9223372036854775807) :
    Calls Tryd.prog 30 #[.string s] w fun e w' => e = .returned (.bool (!Par.validB s.data.toList)) ∧ w = w' := by
  obtain ⟨V, hV⟩ : ∃ V, Par.validB s.data.toList = V := ⟨_, rfl⟩
  rw [hV]
  unfold Par.validB at hV
  rw [← isEmpty_iff50] at hV
  cases he : s.toList.isEmpty
  rotate_left
  · rw [he] at hV
    have hr : V = false := by rw [← hV]; rfl
    subst hr
    have h2 : s.toList = [] := List.isEmpty_iff.1 he
    clear hV
    go_enter Tryd.func30, Tryd.ntmps30
    go_wp2_with fail
    go_ret
    exact ⟨rfl, rfl⟩
  rw [he] at hV
  have hV2 : s.data.toList.all Par.okB = V := by rw [← hV]; simp
  have h2 : ¬ s.toList = [] := fun e => by rw [e] at he; cases he
  have HV := Lib.hid hV2
  clear hV hV2
  go_enter Tryd.func30, Tryd.ntmps30
  go_wp2_with fail
  go_loop [8] (fun i => ∃ k : Nat, k ≤ s.size ∧ i = .int .i64 k ∧ Hid ((s.data.toList.take k).all Par.okB = true)) (fun i => s.size - (intOf i).toNat)
  case atStart => exact ⟨0, Nat.zero_le _, rfl, Lib.hid rfl⟩
  case round =>
    obtain ⟨k, hk, rfl, hok⟩ := hrel
    by_cases hlt : k < s.size
    · have HS := Lib.hid (okB_succ s k hlt)
      have HC : Hid (Par.okB s[k] = (decide (33 ≤ s[k].toNat) && decide (s[k].toNat ≤ 126))) := Lib.hid rfl
      by_cases h1 : s[k].toNat < 33
      · have hf : V = false := by
          rw [← HV.out, okB_take s (k + 1) (by rw [HS.out, HC.out, decide_eq_false (by omega)]; simp)]
        subst hf
        go_wp2_with fail
        go_ret
        exact ⟨rfl, rfl⟩
      · by_cases h3 : 126 < s[k].toNat
        · have hf : V = false := by
            rw [← HV.out, okB_take s (k + 1) (by rw [HS.out, HC.out, decide_eq_false (p := s[k].toNat ≤ 126) (by omega)]; simp)]
          subst hf
          go_wp2_with fail
          go_ret
          exact ⟨rfl, rfl⟩
        · have hnext : Hid ((s.data.toList.take (k + 1)).all Par.okB = true) := by
            show _ = true
            rw [HS.out, hok.out, HC.out, decide_eq_true (p := 33 ≤ s[k].toNat) (by omega), decide_eq_true (p := s[k].toNat ≤ 126) (by omega)]
            rfl
          go_wp2_with fail
          go_round
          case rel => exact ⟨k + 1, by omega, by go_num, hnext⟩
          case measure => simp [intOf]; omega
    · obtain rfl : k = s.size := by omega
      have h := hok.out
      rw [List.take_of_length_le (by rw [toList_length]; omega), HV.out] at h
      subst h
      go_wp2_with fail
      go_ret
      exact ⟨rfl, rfl⟩

theorem all_succ (p : List UInt8 → Bool) (xs : List (List UInt8)) (k : Nat) (x : List UInt8) (h : xs[k]? = some x) : (xs.take (k + 1)).all p = ((xs.take k).all p && p x) := by
  rw [List.take_add_one, h]
  simp
theorem all_false (p : List UInt8 → Bool) (xs : List (List UInt8)) (k : Nat) (h : (xs.take k).all p = false) : xs.all p = false := by
  rw [← List.take_append_drop k xs, List.all_append, h]
  rfl

set_option maxHeartbeats 1000000 in
theorem parCheck_any (ao : Option Addr) (n cap : Nat) (ws : List (List UInt8)) (width : Int) (w : World) (hr : Strs w ao n ws) (hn : n ≤ 9223372036854775807) (hall : ∀ x ∈ ws, x.length ≤ 9223372036854775807) :
    Calls Tryd.prog 15 #[.slice ao n cap, .int .i64 width] w fun e w' => e = .returned (.int .i64 (Par.perr ws width)) ∧ w = w' := by
  obtain ⟨rfl, hr⟩ := hr
  by_cases h1 : width < 1
  · rw [Par.perr, if_pos (.inl h1)]
    go_enter Tryd.func15, Tryd.ntmps15
    go_wp2_with fail
    go_ret
    exact ⟨rfl, rfl⟩
  by_cases h2 : 200 < width
  · rw [Par.perr, if_pos (.inr h2)]
    go_enter Tryd.func15, Tryd.ntmps15
    go_wp2_with fail
    go_ret
    exact ⟨rfl, rfl⟩
  obtain ⟨E, hE⟩ : ∃ E, Par.perr ws width = E := ⟨_, rfl⟩
  have hE2 : (if ws.all Par.validB then 0 else 1) = E := by
    have h := hE
    rw [Par.perr, if_neg (by omega)] at h
    exact h
  have HE := Lib.hid hE2
  rw [hE]
  have HR := Lib.hid hr
  have HA := Lib.hid hall
  clear hE hE2 hr hall
  go_enter Tryd.func15, Tryd.ntmps15
  go_wp2_with fail
  go_loop [15] (fun i => ∃ k : Nat, k ≤ ws.length ∧ i = .int .i64 k ∧ Hid ((ws.take k).all Par.validB = true)) (fun i => ws.length - (intOf i).toNat)
  case atStart => exact ⟨0, Nat.zero_le _, rfl, Lib.hid rfl⟩
  case round =>
    obtain ⟨k, hk, rfl, hok⟩ := hrel
    by_cases hlt : k < ws.length
    · obtain ⟨x, hx⟩ : ∃ x, ws[k]? = some x := ⟨_, List.getElem?_eq_getElem hlt⟩
      obtain ⟨b1, o1, rfl, hc1⟩ := HR.out k x hx
      have HS := Lib.hid (all_succ Par.validB ws k x hx)
      have hi := fun w => invalid_any ⟨x.toArray⟩ w (by rw [mk_size]; exact HA.out x (List.mem_of_getElem? hx))
      have e1 : (⟨x.toArray⟩ : ByteArray).data.toList = x := rfl
      rw [e1] at hi
      clear e1 hx
      obtain ⟨b, hb⟩ : ∃ b, Par.validB x = b := ⟨_, rfl⟩
      have HB := Lib.hid hb
      rw [hb] at hi
      clear hb
      cases b
      · have hf : E = 1 := by
          rw [← HE.out, all_false Par.validB ws (k + 1) (by rw [HS.out, HB.out]; simp)]
          rfl
        subst hf
        go_wp2_with fail
        refine (hi _).mono ?_
        rintro e w' ⟨rfl, rfl⟩
        go_wp2_with fail
        go_ret
        exact ⟨rfl, rfl⟩
      · go_wp2_with fail
        refine (hi _).mono ?_
        rintro e w' ⟨rfl, rfl⟩
        go_wp2_with fail
        go_round
        case rel => exact ⟨k + 1, by omega, by go_num, by show _ = true; rw [HS.out, hok.out, HB.out]; rfl⟩
        case measure => simp [intOf]; omega
    · obtain rfl : k = ws.length := by omega
      have h := hok.out
      rw [List.take_length] at h
      have hf : E = 0 := by rw [← HE.out, h]; rfl
      subst hf
      clear h
      go_wp2_with fail
      go_ret
      exact ⟨rfl, rfl⟩

theorem pieces_any (ao : Option Addr) (n cap : Nat) (width : Int) (w : World) :
    Calls Tryd.prog 16 #[.slice ao n cap, .int .i64 width] w fun e w' => e = .returned (.func (.func 31) #[] #[.pointer (some ⟨w.heap.size, 0, none⟩), .pointer (some ⟨w.heap.size + 1, 0, none⟩)]) ∧ w' = (w.alloc (.cells #[.slice ao n cap] 22)).alloc (.cells #[.int .i64 width] 3) := by
  go_enter Tryd.func16, Tryd.ntmps16
  go_wp2_with fail
  go_ret
  exact ⟨rfl, rfl⟩

abbrev Piece := { p : ByteArray // p.size ≤ 200 }
def KeptBut (n b : Nat) (W W' : World) : Prop := W.heap.size ≤ W'.heap.size ∧ ∀ j, j < n → j ≠ b → W'.heap[j]? = W.heap[j]?
theorem KeptBut.refl (n b : Nat) (W : World) : KeptBut n b W W := ⟨Nat.le_refl _, fun _ _ _ => rfl⟩
theorem KeptBut.trans {n b : Nat} {A B C : World} (h : KeptBut n b A B) (k : KeptBut n b B C) : KeptBut n b A C := ⟨Nat.le_trans h.1 k.1, fun j hj hb => (k.2 j hj hb).trans (h.2 j hj hb)⟩
theorem KeptBut.cell {n b : Nat} {W W' : World} (h : KeptBut n b W W') {p : Addr} (hp : p.block < n) (hb : p.block ≠ b) : W'.cell? p = W.cell? p := World.cell?_of_block (h.2 _ hp hb)
theorem keptBut_b {n b : Nat} {w : World} (hn : n ≤ w.heap.size) (W : World) (l : Nat) (o o' : Obj) (hl : w.heap.size ≤ l) (h : W.heap[l]? = some o) (_ : o.isCells = false) (_ : o.isWalk = false) : KeptBut n b W (W.putObj l o') :=
  ⟨(grownBy_putObj' W l o').size, fun j hj _ => (grownBy_putObj' W l o').block j (by have := (Array.getElem?_eq_some_iff.1 h).1; omega) (fun e => by injection e with e; omega)⟩

def szOf : Value → Nat
  | .string s => s.size
  | _ => 0
def Piece.l (x : Piece) : List UInt8 := x.1.data.toList
theorem extract_pre (S : ByteArray) (n : Nat) : (S.extract 0 n).data.toList = S.data.toList.take n := by
  rw [ByteArray.data_extract, Array.toList_extract, List.extract_eq_take_drop, Nat.sub_zero, List.drop_zero]
theorem extract_post (S : ByteArray) (n : Nat) : (S.extract n S.size).data.toList = S.data.toList.drop n := by
  rw [ByteArray.data_extract, Array.toList_extract, List.extract_eq_take_drop]
  refine List.take_of_length_le ?_
  rw [List.length_drop, toList_length]
  exact Nat.le_refl _

set_option maxHeartbeats 4000000 in
set_option maxRecDepth 100000 in
theorem pieces_stops (n : Nat) (hn : 1 ≤ n) (N0 b Bs Bw : Nat) (ao : Option Addr) (cap : Nat) (ws : List (List UInt8)) (wd : Nat) (w : World) (hN : N0 ≤ w.heap.size) (hbs : Bs < N0 ∧ Bs ≠ b) (hbw : Bw < N0 ∧ Bw ≠ b)
    (hcs : w.cell? ⟨Bs, 0, none⟩ = some (.slice ao ws.length cap)) (hcw : w.cell? ⟨Bw, 0, none⟩ = some (.int .i64 wd))
    (hr : ∀ (j : Nat) (x : List UInt8), ws[j]? = some x → ∃ bk o, ao = some ⟨bk, o, none⟩ ∧ bk < N0 ∧ bk ≠ b ∧ w.cell? ⟨bk, o + j, none⟩ = some (.string ⟨x.toArray⟩))
    (h1 : 1 ≤ wd) (h2 : wd ≤ 200) (hm : ws.length ≤ 1048576) (hx : ∀ x ∈ ws, x.length ≤ 1048576) :
    SeqStopsK Fence.wide n Tryd.prog 31 #[.pointer (some ⟨Bs, 0, none⟩), .pointer (some ⟨Bw, 0, none⟩)] (fun x : Piece => #[Value.string x.1]) (KeptBut N0 b)
      (fun xs => xs.map Piece.l = Par.pieces wd ws) (fun _ => True) (Par.pieces wd ws).length w := fun l J Jx W hW hJ hJx hY h0 => by
  have hcs0 := (hW.cell (p := ⟨Bs, 0, none⟩) (by show Bs < _; omega)).trans hcs
  have hcw0 := (hW.cell (p := ⟨Bw, 0, none⟩) (by show Bw < _; omega)).trans hcw
  have hr0 : ∀ (j : Nat) (x : List UInt8), ws[j]? = some x → ∃ bk o, ao = some ⟨bk, o, none⟩ ∧ bk < N0 ∧ bk ≠ b ∧ W.cell? ⟨bk, o + j, none⟩ = some (.string ⟨x.toArray⟩) := fun j x hj => by
    obtain ⟨bk, o, e, g1, g2, hc⟩ := hr j x hj
    exact ⟨bk, o, e, g1, g2, (hW.cell (p := ⟨bk, o + j, none⟩) (by show bk < _; omega)).trans hc⟩
  have HR := Lib.hid hr0
  have HX := Lib.hid hx
  have HY := Lib.hid hY
  have hP := fun k => Par.pieces_take_le wd ws k
  have HP := Lib.hid hP
  have HS := Lib.hid fun (k : Nat) (x : List UInt8) (h : ws[k]? = some x) => Par.pieces_take_succ wd ws k x h
  have HE : Hid (Par.pieces wd (ws.take ws.length) = Par.pieces wd ws) := by show _ = _; rw [List.take_length]
  clear hr hr0 hx hY hP hcs hcw
  refine callsIn_of_wp Tryd.func31 rfl trivial ?_ rfl
  simp only [Tryd.ntmps31, List.size_toArray, List.length_cons, List.length_nil, Nat.reduceAdd, Nat.reduceSub, Array.replicate_succ, Array.replicate_zero, List.push_toArray, List.append_toArray, List.nil_append, List.cons_append]
  gi_wp2
  gi_loopw [8] (fun i wr => ∃ (k : Nat) (pre : List Piece), k ≤ ws.length ∧ i = .int .i64 k ∧ Hid (pre.map Piece.l = Par.pieces wd (ws.take k)) ∧ J pre wr ∧ KeptBut N0 b W wr) (fun i _ => ws.length - (intOf i).toNat)
  case atStart => exact ⟨0, [], Nat.zero_le _, rfl, Lib.hid rfl, h0, KeptBut.refl _ _ _⟩
  case round =>
    obtain ⟨k, pre, hk, rfl, hpre, hJs, hkb⟩ := hrel
    by_cases hlt : k < ws.length
    · obtain ⟨x, hxk⟩ : ∃ x, ws[k]? = some x := ⟨_, List.getElem?_eq_getElem hlt⟩
      obtain ⟨bk, o, rfl, g1, g2, hc⟩ := HR.out k x hxk
      have hcell := (hkb.cell (p := ⟨bk, o + k, none⟩) g1 g2).trans hc
      have hst := HS.out k x hxk
      have hzx : (⟨x.toArray⟩ : ByteArray).size ≤ 1048576 := by rw [mk_size]; exact HX.out x (List.mem_of_getElem? hxk)
      have hstart : Hid (pre.map Piece.l ++ Par.chop wd (⟨x.toArray⟩ : ByteArray).data.toList = Par.pieces wd (ws.take (k + 1))) := by show _ = _; rw [hst, hpre.out]
      have HQ := Lib.hid (HP.out (k + 1))
      generalize hPk : Par.pieces wd (ws.take (k + 1)) = Pk at *
      have HPk := Lib.hid hPk
      generalize (⟨x.toArray⟩ : ByteArray) = X at *
      clear hc hxk hst hpre hPk
      gi_wp2
      gi_loopw [5] (fun s wr2 => ∃ (S : ByteArray) (pre : List Piece), s = .string S ∧ S.size ≤ 1048576 ∧ Hid (pre.map Piece.l ++ Par.chop wd S.data.toList = Pk) ∧ J pre wr2 ∧ KeptBut N0 b W wr2) (fun s _ => szOf s)
      case atStart => exact ⟨X, pre, rfl, hzx, hstart, hJs, hkb⟩
      case round =>
        obtain ⟨S, pre2, rfl, hzS, hinv, hJ2, hkb2⟩ := hrel
        have hcw2 := (hkb2.cell (p := ⟨Bw, 0, none⟩) hbw.1 hbw.2).trans hcw0
        have hlen : pre2.length < (Par.pieces wd ws).length := by
          have e1 := congrArg List.length hinv.out
          rw [List.length_append, List.length_map] at e1
          have e2 := List.length_pos_iff.2 (Par.chop_ne wd S.data.toList)
          have e3 := HQ.out
          omega
        by_cases hbig : wd < S.size
        · have hz1 : (S.extract 0 wd).size = wd := by rw [ByteArray.size_extract]; omega
          have hz2 : (S.extract wd S.size).size = S.size - wd := by rw [ByteArray.size_extract]; omega
          have hst : Hid (Par.chop wd S.data.toList = (S.extract 0 wd).data.toList :: Par.chop wd (S.extract wd S.size).data.toList) := by
            show _ = _
            rw [Par.chop_long (by omega) (by rw [toList_length]; exact hbig), extract_pre, extract_post]
          obtain ⟨U, hU⟩ : ∃ U : Piece, U.1 = S.extract 0 wd := ⟨⟨S.extract 0 wd, by omega⟩, rfl⟩
          obtain ⟨fn, tmps, assign, body, hy, hR⟩ := HY.out pre2 U wr hJ2 hlen
          rw [hU] at hy
          have HN : Hid ((pre2 ++ [U]).map Piece.l ++ Par.chop wd (S.extract wd S.size).data.toList = Pk) := by
            show _ = _
            rw [← hinv.out, hst.out, List.map_append, List.append_assoc]
            show _ ++ ([U.1.data.toList] ++ _) = _
            rw [hU]
            rfl
          clear hU hlen hst
          gi_wp2
          refine hR.mono ?_
          rintro e W3 (⟨rfl, hJ3, hk3⟩ | ⟨rfl, hJx3⟩)
          · have hcw3 := (hk3.cell (p := ⟨Bw, 0, none⟩) hbw.1 hbw.2).trans hcw2
            gi_wp2
            go_roundw
            case rel => exact ⟨_, pre2 ++ [U], rfl, by omega, HN, hJ3, hkb2.trans hk3⟩
            case measure => simp [szOf]; omega
          · gi_wp2
            refine bodyPost_ret (results_none rfl _ _ _) rfl ?_
            exact ⟨⟨_, rfl⟩, .inr ⟨_, trivial, hJx3⟩⟩
        · obtain ⟨U, hU⟩ : ∃ U : Piece, U.1 = S := ⟨⟨S, by omega⟩, rfl⟩
          obtain ⟨fn, tmps, assign, body, hy, hR⟩ := HY.out pre2 U wr hJ2 hlen
          rw [hU] at hy
          have HN : Hid ((pre2 ++ [U]).map Piece.l = Pk) := by
            show _ = _
            rw [← hinv.out, Par.chop_short (by rw [toList_length]; omega), List.map_append]
            show _ ++ [U.1.data.toList] = _
            rw [hU]
          clear hU hlen
          gi_wp2
          refine hR.mono ?_
          rintro e W3 (⟨rfl, hJ3, hk3⟩ | ⟨rfl, hJx3⟩)
          · gi_wp2
            go_roundw
            case rel => exact ⟨k + 1, pre2 ++ [U], by omega, by go_num, by rw [HPk.out]; exact HN, hJ3, hkb2.trans hk3⟩
            case measure => simp [intOf]; omega
          · gi_wp2
            refine bodyPost_ret (results_none rfl _ _ _) rfl ?_
            exact ⟨⟨_, rfl⟩, .inr ⟨_, trivial, hJx3⟩⟩
    · obtain rfl : k = ws.length := by omega
      have h := hpre.out
      rw [HE.out] at h
      gi_wp2
      go_end0
      exact ⟨⟨_, rfl⟩, .inl ⟨_, h, hJs⟩⟩
end Go.Proofs.YtbfgjngljggbpaaDoor
