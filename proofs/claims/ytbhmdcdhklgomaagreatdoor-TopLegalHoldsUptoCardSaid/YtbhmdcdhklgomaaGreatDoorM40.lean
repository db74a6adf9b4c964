/-
  steleref32.Same and steleref36.Equal at equal arguments.
-/
import Derived.Test.YtbhmdcdhklgomaaGreatDoorM34
import Derived.BigQuiet
import Derived.DeepKeys
namespace Go.Proofs.YtbhmdcdhklgomaaGreatDoor
open Go.RowKit Top

theorem attr_eq (k v : Bs) (hk : k.length ≤ 1000000000) (hv : v.length ≤ 1000000000) (w : World) : Sem.run Tryz.prog (Op.equalIn 10000 81 (.agg #[.string ⟨k.toArray⟩, .string ⟨v.toArray⟩]) (.agg #[.string ⟨k.toArray⟩, .string ⟨v.toArray⟩])) w = .ok true w := by
  have u1 := Tryz.underlying81
  have u2 := Tryz.underlying9
  have z1 : Tryz.prog.cellsOf 81 = 2 := by kernel_rfl
  have z2 : Tryz.prog.cellsOf 9 = 1 := by kernel_rfl
  have e1 : ∀ x : Bs, x.length ≤ 1000000000 → Tryz.prog.keyLits 9 9 [Value.string ⟨x.toArray⟩] = some [.string x] := fun x hx => by
    unfold Program.keyLits
    simp only [u2]
    rw [if_pos (by show x.length ≤ maxLen; unfold maxLen; omega)]
  have hl : Tryz.prog.keyLits 10 81 [Value.string ⟨k.toArray⟩, Value.string ⟨v.toArray⟩] = some [.string k, .string v] := by
    unfold Program.keyLits
    simp only [u1]
    rw [if_pos ⟨by rw [z1]; rfl, by kernel_rfl⟩]
    simp only [List.mapM_cons, List.mapM_nil, z2]
    rw [show (List.take 1 (List.drop 0 [Value.string ⟨k.toArray⟩, Value.string ⟨v.toArray⟩])) = [.string ⟨k.toArray⟩] from rfl, show (List.take 1 (List.drop 1 [Value.string ⟨k.toArray⟩, Value.string ⟨v.toArray⟩])) = [.string ⟨v.toArray⟩] from rfl, e1 k hk, e1 v hv]
    rfl
  have hkt : Tryz.prog.keyTypeAt 10 81 = true := by kernel_rfl
  have hf : (Value.agg #[.string ⟨k.toArray⟩, .string ⟨v.toArray⟩]).formed Tryz.prog 81 = true := by kernel_rfl
  obtain ⟨r, hr, hiff⟩ := run_equalIn_deep (P := Tryz.prog) 9990 10 81 hkt w 10 10 _ _ _ _ hf hf hl hl
  rw [hiff.2 rfl] at hr
  exact hr
theorem ext_eq (a b c : Int) (ha : (Lit.int .i64 a).wf = true) (hb : (Lit.int .i64 b).wf = true) (hc : (Lit.int .i64 c).wf = true) (w : World) : Sem.run Tryz.prog (Op.equalIn 10000 93 (.agg #[.int .i64 a, .int .i64 b, .int .i64 c]) (.agg #[.int .i64 a, .int .i64 b, .int .i64 c])) w = .ok true w := by
  have u1 := Tryz.underlying93
  have u2 := Tryz.underlying3
  have z1 : Tryz.prog.cellsOf 93 = 3 := by kernel_rfl
  have z2 : Tryz.prog.cellsOf 3 = 1 := by kernel_rfl
  have e1 : ∀ x : Int, (Lit.int .i64 x).wf = true → Tryz.prog.keyLits 9 3 [Value.int .i64 x] = some [.int .i64 x] := fun x hx => by
    unfold Program.keyLits
    simp only [u2]
    rw [if_pos ⟨trivial, hx⟩]
  have hl : Tryz.prog.keyLits 10 93 [Value.int .i64 a, Value.int .i64 b, Value.int .i64 c] = some [.int .i64 a, .int .i64 b, .int .i64 c] := by
    unfold Program.keyLits
    simp only [u1]
    rw [if_pos ⟨by rw [z1]; rfl, by kernel_rfl⟩]
    simp only [List.mapM_cons, List.mapM_nil, z2]
    rw [show (List.take 1 (List.drop 0 [Value.int .i64 a, Value.int .i64 b, Value.int .i64 c])) = [.int .i64 a] from rfl, show (List.take 1 (List.drop 1 [Value.int .i64 a, Value.int .i64 b, Value.int .i64 c])) = [.int .i64 b] from rfl, show (List.take 1 (List.drop 2 [Value.int .i64 a, Value.int .i64 b, Value.int .i64 c])) = [.int .i64 c] from rfl, e1 a ha, e1 b hb, e1 c hc]
    rfl
  have hkt : Tryz.prog.keyTypeAt 10 93 = true := by kernel_rfl
  have hf : (Value.agg #[.int .i64 a, .int .i64 b, .int .i64 c]).formed Tryz.prog 93 = true := by kernel_rfl
  obtain ⟨r, hr, hiff⟩ := run_equalIn_deep (P := Tryz.prog) 9990 10 93 hkt w 10 10 _ _ _ _ hf hf hl hl
  rw [hiff.2 rfl] at hr
  exact hr

set_option maxHeartbeats 2000000 in
set_option maxRecDepth 100000 in
theorem same32_any (v v' : Value) (l : List Top.Attr) (w : World) (h : Flat attrC 2 w v l) (h' : Flat attrC 2 w v' l) (hl : ∀ a ∈ l, a.key.length ≤ 1000000000 ∧ a.val.length ≤ 1000000000) :
    Calls Tryz.prog 35 #[v, v'] w fun en w' => en = .returned (.bool true) ∧ Below w.heap.size w w' := by
  obtain ⟨ao, cap, rfl, hc1, hc2⟩ := h.form
  obtain ⟨ao', cap', rfl, hc3, hc4⟩ := h'.form
  have H := Lib.hid h
  have H' := Lib.hid h'
  have HL := Lib.hid hl
  clear h h' hl
  go_enter Tryz.func35, Tryz.ntmps35
  go_wp2_with fail
  go_loopw [5] (fun i wr => ∃ k : Nat, k ≤ l.length ∧ i = .int .i64 k ∧ Below w.heap.size w wr) (fun i _ => l.length - (intOf i).toNat)
  case atStart => exact ⟨0, Nat.zero_le _, rfl, Below.refl _ _⟩
  case round =>
    obtain ⟨k, hk, rfl, hb⟩ := hrel
    by_cases hlt : k < l.length
    · obtain ⟨a, ha⟩ : ∃ a, l[k]? = some a := ⟨_, List.getElem?_eq_getElem hlt⟩
      obtain ⟨bk, o, rfl, hcell⟩ := (H.out.below hb).get ha
      obtain ⟨bk', o', rfl, hcell'⟩ := (H'.out.below hb).get ha
      have c0 := hcell 0 _ rfl
      have c1 := hcell 1 _ rfl
      have d0 := hcell' 0 _ rfl
      have d1 := hcell' 1 _ rfl
      rw [Nat.add_zero] at c0 d0
      obtain ⟨q1, q2⟩ := HL.out a (List.mem_of_getElem? ha)
      have hq := attr_eq a.key a.val q1 q2
      clear hcell hcell' ha q1 q2
      generalize (⟨a.key.toArray⟩ : ByteArray) = K at *
      generalize (⟨a.val.toArray⟩ : ByteArray) = V at *
      go_wp2_with fail
      go_quiet (fail)
      go_wp2_with fail
      go_roundw
      case rel => exact ⟨k + 1, by omega, by go_num, below_drewN hb nq⟩
      case measure => simp [intOf]; omega
    · obtain rfl : k = l.length := by omega
      go_wp2_with fail
      go_ret
      exact ⟨rfl, hb⟩
end Go.Proofs.YtbhmdcdhklgomaaGreatDoor

/-
  steleref36.Equal at equal entries.
-/
namespace Go.Proofs.YtbhmdcdhklgomaaGreatDoor
open Go.RowKit Top

theorem wf_int {n : Int} (h1 : -9223372036854775808 ≤ n) (h2 : n ≤ 9223372036854775807) : (Lit.int .i64 n).wf = true := by
  simp only [Lit.wf, IntKind.min, IntKind.max, IntKind.signed, IntKind.bits, Bool.and_eq_true, decide_eq_true_eq, if_true]
  omega
set_option maxHeartbeats 4000000 in
set_option maxRecDepth 100000 in
theorem equal36_any (v v' : Value) (e : Ent) (w : World) (h : EntV w v e) (h' : EntV w v' e) (he : entErr e = 0) :
    Calls Tryz.prog 13 #[v, v'] w fun en w' => en = .returned (.bool true) ∧ Below w.heap.size w w' := by
  obtain ⟨aa, ac, ea, ec, rfl, ha, hx⟩ := h
  obtain ⟨aa', ac', ea', ec', rfl, ha', hx'⟩ := h'
  have hv := valid he
  obtain ⟨W, hW, hbW, hzW, d0, d1, d2, d3, d4, d5, d6⟩ := ebox w e (.slice aa e.attrs.length ac) (.slice ea e.exts.length ec)
  obtain ⟨V, hV, hbV, hzV, e0, e1, e2, e3, e4, e5, e6⟩ := ebox W e (.slice aa' e.attrs.length ac') (.slice ea' e.exts.length ec')
  have hl1 : w.heap.size < W.heap.size := by omega
  have hl2 : W.heap.size < V.heap.size := by omega
  have hl3 : w.heap.size < V.heap.size := by omega
  have d0 := cell_on hbV hl1 d0
  have d1 := cell_on hbV hl1 d1
  have d2 := cell_on hbV hl1 d2
  have d3 := cell_on hbV hl1 d3
  have d4 := cell_on hbV hl1 d4
  have d5 := cell_on hbV hl1 d5
  have d6 := cell_on hbV hl1 d6
  have hbw := hbW.trans (hbV.mono hbW.size)
  have HS := Lib.hid (same32_any _ _ e.attrs V (ha.below hbw) (ha'.below hbw) (fun a h => by have := hv.attr a h; omega))
  have HX := Lib.hid (hx.below hbw)
  have HX' := Lib.hid (hx'.below hbw)
  have HE := Lib.hid hv.ext
  have D6 := Lib.hid d6
  have E6 := Lib.hid e6
  obtain ⟨_, _, g1, g2, g3⟩ := hx.form
  have hcx : e.exts.length ≤ ec ∧ ec ≤ 9223372036854775807 := by injection g1 with _ _ g; omega
  obtain ⟨_, _, g1', g2', g3'⟩ := hx'.form
  have hcx' : e.exts.length ≤ ec' ∧ ec' ≤ 9223372036854775807 := by injection g1' with _ _ g; omega
  clear ha ha' hx hx' hv he hzW hzV g1 g2 g3 g1' g2' g3'
  go_enter Tryz.func13, Tryz.ntmps13
  go_upto_region 1 with (fail)
  try rw [hW]
  try rw [hV]
  clear hW hV
  go_wp2_with fail
  refine HS.out.mono ?_
  rintro en w1 ⟨rfl, hb1⟩
  have d3 := cell_on hb1 hl3 d3
  have d4 := cell_on hb1 hl3 d4
  have d5 := cell_on hb1 hl3 d5
  have d6 := cell_on hb1 hl3 d6
  have e3 := cell_on hb1 hl2 e3
  have e4 := cell_on hb1 hl2 e4
  have e5 := cell_on hb1 hl2 e5
  have e6 := cell_on hb1 hl2 e6
  have hbw1 := hbw.trans (hb1.mono hbw.size)
  go_wp2_with fail
  go_loopw [5] (fun i wr => ∃ k : Nat, k ≤ e.exts.length ∧ i = .int .i64 k ∧ Below V.heap.size V wr) (fun i _ => e.exts.length - (intOf i).toNat)
  case atStart => exact ⟨0, Nat.zero_le _, rfl, hb1⟩
  case round =>
    obtain ⟨k, hk, rfl, hb⟩ := hrel
    have hbr := hbw.trans (hb.mono hbw.size)
    have d6 := cell_on hb hl3 D6.out
    have e6 := cell_on hb hl2 E6.out
    by_cases hlt : k < e.exts.length
    · obtain ⟨x, hx⟩ : ∃ x, e.exts[k]? = some x := ⟨_, List.getElem?_eq_getElem hlt⟩
      obtain ⟨bk, o, hoo, hcell⟩ := (HX.out.below hb).get hx
      obtain ⟨bk', o', hoo', hcell'⟩ := (HX'.out.below hb).get hx
      subst hoo hoo'
      have c0 := hcell 0 _ rfl
      have c1 := hcell 1 _ rfl
      have c2 := hcell 2 _ rfl
      have f0 := hcell' 0 _ rfl
      have f1 := hcell' 1 _ rfl
      have f2 := hcell' 2 _ rfl
      rw [Nat.add_zero] at c0 f0
      have hxe := HE.out x (List.mem_of_getElem? hx)
      have hq := ext_eq x.ses x.off x.len (wf_int (by omega) (by omega)) (wf_int (by omega) (by omega)) (wf_int (by omega) (by omega))
      have q5 : (0 : Int) ≤ (k : Int) := by omega
      have q6 : (k : Int) < (e.exts.length : Int) := by omega
      clear hcell hcell' hx hxe
      go_wp2_with fail
      go_quiet (fail)
      go_wp2_with fail
      go_roundw
      case rel => exact ⟨k + 1, by omega, by go_num, below_drewN hb nq⟩
      case measure => simp [intOf]; omega
    · obtain rfl : k = e.exts.length := by omega
      go_wp2_with fail
      go_ret
      exact ⟨rfl, hbr⟩
end Go.Proofs.YtbhmdcdhklgomaaGreatDoor

/-
  history.AsOf.
-/
namespace Go.Proofs.YtbhmdcdhklgomaaGreatDoor
open Go.RowKit Top

set_option maxHeartbeats 2000000 in
set_option maxRecDepth 100000 in
theorem idxSes_any (F : FuncId) (hE : Enters Tryz.prog F) (cap : Value) (p : Ses → Bool) (tv : Value) (t : List Ses) (w : World) (ht : Sess w tv t)
    (hF : ∀ W v x, x ∈ t → Below w.heap.size w W → SesV W v x → Calls Tryz.prog F #[v, cap] W fun e w' => e = .returned (.bool (p x)) ∧ Below W.heap.size W w') :
    Calls Tryz.prog 48 #[tv, .func (.func F) #[] #[cap]] w fun en w' => en = .returned (.int .i64 (idxO (t.findIdx? p))) ∧ Below w.heap.size w w' := by
  obtain ⟨ao, cp, rfl, hlc, hcm⟩ := ht.form
  have HT := Lib.hid ht
  have HF := Lib.hid hF
  have hEn : ∀ (args : Array Value) (w : World), (callFunc F args).run Tryz.prog w = .ok (.enter F args) w := hE
  clear ht hF hE
  go_enter Tryz.func48, Tryz.ntmps48
  go_wp2_with fail
  go_loopw [8] (fun i wr => ∃ k : Nat, k ≤ t.length ∧ i = .int .i64 k ∧ Hid (∀ y ∈ t.take k, p y = false) ∧ Below w.heap.size w wr) (fun i _ => t.length - (intOf i).toNat)
  case atStart => exact ⟨0, Nat.zero_le _, rfl, fun y hy => by simp at hy, Below.refl _ _⟩
  case round =>
    obtain ⟨k, hk, rfl, hok, hb⟩ := hrel
    by_cases hlt : k < t.length
    · obtain ⟨x, hx⟩ : ∃ x, t[k]? = some x := ⟨_, List.getElem?_eq_getElem (by omega)⟩
      obtain ⟨bk, o, ea, ec, rfl, he, c0, c1, c2, c3, c4, c5⟩ := (HT.out.below hb).get hx
      have HC := Lib.hid (HF.out wr _ x (List.mem_of_getElem? hx) hb ⟨ea, ec, rfl, he⟩)
      have HX := Lib.hid hx
      obtain ⟨b, hb1⟩ : ∃ b, p x = b := ⟨_, rfl⟩
      rw [hb1] at HC
      have HB := Lib.hid hb1
      clear hx hb1 he
      cases b
      · go_wp2_with fail
        refine HC.out.mono ?_
        rintro en w' ⟨rfl, hb2⟩
        go_wp2_with fail
        go_roundw
        case rel => exact ⟨k + 1, by omega, by go_num, take_allf hok.out HX.out HB.out, hb.trans (hb2.mono hb.size)⟩
        case measure => simp [intOf]; omega
      · go_wp2_with fail
        refine HC.out.mono ?_
        rintro en w' ⟨rfl, hb2⟩
        go_wp2_with fail
        go_ret
        refine ⟨?_, hb.trans (hb2.mono hb.size)⟩
        rw [idxf_at hok.out HX.out HB.out]
        rfl
    · obtain rfl : k = t.length := by omega
      have h := hok.out
      rw [List.take_length] at h
      have H := Lib.hid h
      clear h
      go_wp2_with fail
      go_ret
      exact ⟨by rw [idxf_no H.out]; rfl, hb⟩
theorem asofc_any (v : Value) (s : Ses) (d : Int) (db : Nat) (w : World) (hv : SesV w v s) (hd : w.cell? ⟨db, 0, none⟩ = some (.int .i64 d)) :
    Calls Tryz.prog 49 #[v, .pointer (some ⟨db, 0, none⟩)] w fun en w' => en = .returned (.bool (decide (d < s.date))) ∧ Below w.heap.size w w' := by
  obtain ⟨ea, ec, rfl, _⟩ := hv
  obtain ⟨W, hW, hbW, hzW, hk, b0, b1, b2, b3, b4, b5⟩ := box6 w (.int .i64 s.num) (.int .i64 s.date) (.string ⟨s.prev.toArray⟩) (.slice ea s.entries.length ec) (.string ⟨s.stream.toArray⟩) (.string ⟨s.sign.toArray⟩) 39
  have hd := (hbW.cell (World.block_lt_of_cell? _ _ hd)).trans hd
  clear hzW hk
  go_enter Tryz.func49, Tryz.ntmps49
  go_upto_region 1 with (fail)
  try rw [hW]
  clear hW
  go_wp2_with fail
  go_ret
  exact ⟨rfl, hbW⟩
set_option maxHeartbeats 1000000 in
theorem asof_any (sa : Option Addr) (sc : Nat) (l : List Ses) (d : Int) (w : World) (hs : Sess w (.slice sa l.length sc) l) :
    Calls Tryz.prog 17 #[.slice sa l.length sc, .int .i64 d] w fun en w' => en = .returned (.int .i64 (asOf l d : Nat)) ∧ Below w.heap.size w w' := by
  have hcap : l.length ≤ sc ∧ sc ≤ 9223372036854775807 := by
    obtain ⟨_, _, e, h1, h2⟩ := hs.form
    injection e with _ _ e3
    omega
  have hB := heap_alloc_new w (.cells #[.int .i64 d] 3)
  have hbW := (Below.refl _ w).alloc (Nat.le_refl _) (.cells #[.int .i64 d] 3)
  have hF := fun X (h : Below w.heap.size w X) => hs.below h
  have HI := Lib.hid (idxSes_any 49 (enters_of Tryz.func49 (by kernel_rfl) rfl) (.pointer (some ⟨w.heap.size, 0, none⟩)) (fun s => decide (d < s.date)) _ l (w.alloc (.cells #[.int .i64 d] 3)) (hs.below hbW) (fun X v x _ hX hv => asofc_any v x d w.heap.size X hv ((hX.cell (p := ⟨w.heap.size, 0, none⟩) (by simp)).trans (tcell hB 0 _ rfl))))
  have HAS : Hid (asOf l d = (l.findIdx? fun s => decide (d < s.date)).getD l.length) := rfl
  clear hs hF hB
  cases hfi : l.findIdx? fun s => decide (d < s.date) with
  | none =>
    rw [hfi] at HI HAS
    have HI : Hid (Calls _ _ _ _ fun en w' => en = .returned (.int .i64 (-1)) ∧ _) := HI
    clear hfi
    go_enter Tryz.func17, Tryz.ntmps17
    go_wp2_with fail
    refine HI.out.mono ?_
    rintro en w1 ⟨rfl, hb⟩
    go_wp2_with fail
    go_ret
    rw [HAS.out]
    exact ⟨rfl, hbW.trans (hb.mono hbW.size)⟩
  | some i =>
    rw [hfi] at HI HAS
    have HI : Hid (Calls _ _ _ _ fun en w' => en = .returned (.int .i64 (i : Nat)) ∧ _) := HI
    clear hfi
    go_enter Tryz.func17, Tryz.ntmps17
    go_wp2_with fail
    refine HI.out.mono ?_
    rintro en w1 ⟨rfl, hb⟩
    go_wp2_with fail
    go_ret
    rw [HAS.out]
    exact ⟨rfl, hbW.trans (hb.mono hbW.size)⟩
end Go.Proofs.YtbhmdcdhklgomaaGreatDoor

/-
  export.Content of a file that is whole.
-/
namespace Go.Proofs.YtbhmdcdhklgomaaGreatDoor
open Go.RowKit Top

theorem ownStr_strs {w : World} {B n c : Nat} {ao : Option Addr} {xs : List Bs} (h : OwnStr w B (.slice ao n c) xs) : Strs w ao n xs := by
  obtain ⟨ao', cap, e, _⟩ := h.form
  injection e with _ e2 _
  refine ⟨e2, fun j x hj => ?_⟩
  obtain ⟨bk, o, h1, h2⟩ := (h.flat strC_len).get hj
  have := h2 0 _ rfl
  rw [Nat.add_zero, Nat.mul_one] at this
  exact ⟨bk, o, h1, this⟩
set_option maxHeartbeats 4000000 in
set_option maxRecDepth 100000 in
theorem content_ok (sa : Option Addr) (sc : Nat) (l : List Ses) (ev : Value) (e : Ent) (c : Bs) (w : World) (hs : Sess w (.slice sa l.length sc) l) (hev : EntV w ev e) (he : entErr e = 0) (hk : e.kind = 1) (hget : getB (l.map (·.stream)) e.exts = (c, 0)) (hsz : (c.length : Int) = e.size) (hdg : Blk.sum c = e.digest) (hst : ∀ s ∈ l, s.stream.length ≤ 140737488355328) (hl : l.length ≤ 65536) :
    Calls Tryz.prog 25 #[.slice sa l.length sc, ev] w fun en w' => en = .returned (.tuple #[.string ⟨c.toArray⟩, .int .i64 0]) ∧ Below w.heap.size w w' := by
  obtain ⟨aa, ac, ea, ec, rfl, _, hfe⟩ := hev
  have hcap : l.length ≤ sc ∧ sc ≤ 9223372036854775807 := by
    obtain ⟨_, _, e, h1, h2⟩ := hs.form
    injection e with _ _ e3
    omega
  have hcl : c.length ≤ 65536 := by
    have := getB_len (l.map (·.stream)) e.exts
    rw [hget] at this
    exact this
  obtain ⟨W, hW, hbW, hzW, e0, e1, e2, e3, e4, e5, e6⟩ := ebox w e (.slice aa e.attrs.length ac) (.slice ea e.exts.length ec)
  rw [hk] at hW e0
  have HS := Lib.hid hs
  have HX := Lib.hid hfe
  have HEX := Lib.hid (exts_ok he)
  have hcap2 := (valid he).exts
  have HGE := Lib.hid hget
  have hlw : w.heap.size < W.heap.size := by omega
  have E4 := Lib.hid e4
  have E5 := Lib.hid e5
  have E6 := Lib.hid e6
  have HDG := Lib.hid hdg
  have HSZ := Lib.hid hsz
  have HST := Lib.hid hst
  obtain ⟨_, _, g1, g2, g3⟩ := hfe.form
  have hcx : e.exts.length ≤ ec ∧ ec ≤ 9223372036854775807 := by injection g1 with _ _ g; omega
  have hfree0 : OwnStr W W.heap.size (.slice none 0 0) ((l.take 0).map (·.stream)) := OwnF.nil _ _
  clear hs hfe he hget hdg hsz hst hzW g1 g2 g3 e1 e2 e3 e4 e5 e6
  go_enter Tryz.func25, Tryz.ntmps25
  rw [hk]
  go_upto_region 1 with (fail)
  try rw [hW]
  clear hW hk
  go_wp2_with fail
  go_loopw [6, 16] (fun v i wr => ∃ k : Nat, k ≤ l.length ∧ i = .int .i64 k ∧ Hid (OwnStr wr W.heap.size v ((l.take k).map (·.stream))) ∧ Below W.heap.size W wr) (fun _ i _ => l.length - (intOf i).toNat)
  case atStart => exact ⟨0, Nat.zero_le _, rfl, hfree0, Below.refl _ _⟩
  case round =>
    obtain ⟨k, hk, rfl, hO, hb⟩ := hrel
    have hbr := hbW.trans (hb.mono hbW.size)
    by_cases hlt : k < l.length
    · obtain ⟨s, hsk⟩ : ∃ s, l[k]? = some s := ⟨_, List.getElem?_eq_getElem hlt⟩
      obtain ⟨bk, o, sea, sec, hoo, _, c0, c1, c2, c3, c4, c5⟩ := (HS.out.below hbr).get hsk
      subst hoo
      have hmap : (l.take (k + 1)).map (·.stream) = (l.take k).map (·.stream) ++ [s.stream] := by
        rw [List.take_add_one, hsk, Option.toList_some, List.map_append]
        rfl
      have HMP := Lib.hid hmap
      have hln : ((l.take k).map (·.stream)).length = k := by
        rw [List.length_map, List.length_take]
        omega
      obtain ⟨V, hV, hbV, hzV, _, b0, b1, b2, b3, b4, b5⟩ := box6 wr (.int .i64 s.num) (.int .i64 s.date) (.string ⟨s.prev.toArray⟩) (.slice sea s.entries.length sec) (.string ⟨s.stream.toArray⟩) (.string ⟨s.sign.toArray⟩) 39
      have hOV : OwnStr V W.heap.size _ ((l.take k).map (·.stream)) := hO.out.kept hbV
      have hbV1 := hb.trans (hbV.mono hb.size)
      generalize (l.take k).map (·.stream) = ss at *
      obtain ⟨oa, oc, hv, _, _⟩ := hOV.form
      subst hv
      have HOV := Lib.hid hOV
      clear hmap hzV hsk hOV hO
      go_upto_region 7 with (fail)
      try rw [hV]
      clear hV
      go_wp2_with (at_builtin; refine wpList_appF 9 130 strC 1 16 _ info_strT Tryz.underlying130 rfl (by decide) (by decide) strC_len strC_one rfl _ _ rfl W.heap.size _ _ rfl HOV.out s.stream rfl (by omega) hbV1.size ?_; intro v1 w1 ho1 hb1 _)
      go_roundw
      case rel => exact ⟨k + 1, by omega, by go_num, by show OwnStr _ _ _ _; rw [HMP.out]; exact ho1, hbV1.trans hb1⟩
      case measure => simp [intOf]; omega
    · obtain rfl : k = l.length := by omega
      have hO2 := hO.out
      rw [List.take_length] at hO2
      obtain ⟨oa, oc, hv, _, _⟩ := hO2.form
      subst hv
      have d4 := cell_on hb hlw E4.out
      have d5 := cell_on hb hlw E5.out
      have d6 := cell_on hb hlw E6.out
      have hlm : (l.map (·.stream)).length = l.length := List.length_map _
      have HGB := Lib.hid (get_any35 oa l.length oc (l.map (·.stream)) _ e.exts wr (by have h := ownStr_strs hO2; rwa [hlm] at h) (HX.out.below hbr) HEX.out (fun z hz => by
        obtain ⟨s, hs, rfl⟩ := List.mem_map.1 hz
        exact HST.out s hs) (by omega))
      rw [HGE.out] at HGB
      clear hO hO2
      go_wp2_with fail
      refine HGB.out.mono ?_
      rintro en w2 ⟨rfl, hb2⟩
      have hlr : w.heap.size < wr.heap.size := Nat.lt_of_lt_of_le hlw hb.size
      have d4 := cell_on hb2 hlr d4
      have d5 := cell_on hb2 hlr d5
      have hl2 : w.heap.size < w2.heap.size := Nat.lt_of_lt_of_le hlr hb2.size
      have hbw2 := hbr.trans (hb2.mono hbr.size)
      have HSU := Lib.hid (sum_new c w2.drew (by omega))
      rw [HDG.out] at HSU
      have q1 : ((c.length : Int) != e.size) = false := by rw [HSZ.out]; simp
      have x4 : w2.drew.cell? ⟨w.heap.size, 4, none⟩ = some (.int .i64 e.size) := d4
      have x5 : w2.drew.cell? ⟨w.heap.size, 5, none⟩ = some (.string ⟨e.digest.toArray⟩) := d5
      have hba := (Below.refl _ w2.drew).alloc (Nat.le_refl _) (.cells #[.string ⟨c.toArray⟩] 9)
      have r4 : (w2.drew.alloc (.cells #[.string ⟨c.toArray⟩] 9)).cell? ⟨w.heap.size, 4, none⟩ = some (.int .i64 e.size) := (hba.cell (p := ⟨w.heap.size, 4, none⟩) hl2).trans d4
      have r5 : (w2.drew.alloc (.cells #[.string ⟨c.toArray⟩] 9)).cell? ⟨w.heap.size, 5, none⟩ = some (.string ⟨e.digest.toArray⟩) := (hba.cell (p := ⟨w.heap.size, 5, none⟩) hl2).trans d5
      go_wp2_with fail
      go_region_held3 (fun w' => w'.cell? ⟨w.heap.size, 4, none⟩ = some (.int .i64 e.size) ∧ w'.cell? ⟨w.heap.size, 5, none⟩ = some (.string ⟨e.digest.toArray⟩)) (first | with_reducible exact ⟨x4, x5⟩ | with_reducible exact ⟨r4, r5⟩ | with_reducible exact ⟨p4, p5⟩ | go_keep) ((go_at_call 65; refine HSU.out.mono ?_; rintro en w3 ⟨rfl, hb3⟩; have p4 := cell_on hb3 hl2 d4; have p5 := cell_on hb3 hl2 d5))
      all_goals
        go_wp2_with fail
        go_ret2
        refine ⟨rfl, ?_⟩
        first
          | exact hbw2.drew.trans (hb3.mono hbw2.drew.size)
          | exact (hbw2.drew.trans (hb3.mono hbw2.drew.size)).drew
end Go.Proofs.YtbhmdcdhklgomaaGreatDoor
