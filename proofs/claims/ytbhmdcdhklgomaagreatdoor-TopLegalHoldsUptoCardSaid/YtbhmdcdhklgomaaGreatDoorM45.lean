/-
  What steletop.writes writes, in plain words: the three sessions, evaluated in the kernel. No program.
-/
import Derived.Test.YtbhmdcdhklgomaaGreatDoorM03
import Derived.Test.YtbhmdcdhklgomaaGreatDoorM40
import Derived.BigQuiet
import Derived.Test.YtbhmdcdhklgomaaGreatDoorM41
namespace Go.Proofs.YtbhmdcdhklgomaaGreatDoor.Top
open Go Go.Proofs.YtbhmdcdhklgomaaGreatDoor

def W0 : List (List Change) := [[⟨1, [97], [], [], [111, 110, 101]⟩], [⟨1, [97], [], [], [116, 119, 111]⟩], [⟨4, [97], [], [], []⟩]]
def lit1 : Ent := ⟨1, [97], [], [], 3, [180, 172, 155, 158, 17, 232, 233, 82, 89, 130, 22, 11, 31, 86, 19, 32, 236, 100, 101, 89, 179, 117, 20, 223, 18, 38, 120, 99, 56, 152, 15, 115], [⟨1, 0, 3⟩]⟩
def lit2 : Ent := ⟨1, [97], [], [], 3, [16, 35, 53, 200, 78, 181, 147, 0, 208, 114, 219, 103, 220, 4, 142, 123, 48, 179, 248, 71, 127, 61, 160, 129, 12, 75, 119, 50, 132, 227, 67, 166], [⟨2, 0, 3⟩]⟩
def lit3 : Ent := ⟨4, [97], [], [], 0, [], []⟩
def litS1 : Ses := ⟨1, 10, [], [lit1], [111, 110, 101], []⟩
def litS2 : Ses := ⟨2, 20, [54, 59, 39, 204, 2, 36, 158, 128, 100, 156, 167, 217, 36, 176, 79, 27, 47, 81, 145, 177, 76, 205, 26, 125, 71, 177, 23, 226, 224, 239, 55, 173], [lit2], [116, 119, 111], []⟩
def litS3 : Ses := ⟨3, 30, [141, 227, 36, 70, 129, 168, 150, 109, 245, 8, 119, 180, 125, 200, 71, 251, 229, 69, 252, 83, 245, 55, 158, 230, 12, 114, 43, 243, 62, 206, 225, 208], [lit3], [], []⟩
def L0 : List Ses := [litS1, litS2, litS3]

def sameL {α : Type} (f : α → α → Bool) : List α → List α → Bool
  | [], [] => true
  | x :: l, y :: r => f x y && sameL f l r
  | _, _ => false
theorem sameL_eq {α : Type} {f : α → α → Bool} (hf : ∀ x y, f x y = true → x = y) : ∀ {l r : List α}, sameL f l r = true → l = r
  | [], [], _ => rfl
  | [], _ :: _, h => by cases h
  | _ :: _, [], h => by cases h
  | x :: l, y :: r, h => by
    unfold sameL at h
    rw [Bool.and_eq_true] at h
    rw [hf x y h.1, sameL_eq hf h.2]
def sameA (a b : Attr) : Bool := a.key == b.key && a.val == b.val
theorem sameA_eq (a b : Attr) (h : sameA a b = true) : a = b := by
  unfold sameA at h
  simp only [Bool.and_eq_true, beq_iff_eq] at h
  cases a; cases b
  simp_all
def sameX (a b : Ext) : Bool := a.ses == b.ses && a.off == b.off && a.len == b.len
theorem sameX_eq (a b : Ext) (h : sameX a b = true) : a = b := by
  unfold sameX at h
  simp only [Bool.and_eq_true, beq_iff_eq] at h
  cases a; cases b
  simp_all
def sameE (a b : Ent) : Bool := a.kind == b.kind && a.path == b.path && sameL sameA a.attrs b.attrs && a.target == b.target && a.size == b.size && a.digest == b.digest && sameL sameX a.exts b.exts
theorem sameE_eq (a b : Ent) (h : sameE a b = true) : a = b := by
  unfold sameE at h
  simp only [Bool.and_eq_true, beq_iff_eq] at h
  obtain ⟨⟨⟨⟨⟨⟨h1, h2⟩, h3⟩, h4⟩, h5⟩, h6⟩, h7⟩ := h
  have h3 := sameL_eq sameA_eq h3
  have h7 := sameL_eq sameX_eq h7
  cases a; cases b
  simp_all
def sameS (a b : Ses) : Bool := a.num == b.num && a.date == b.date && a.prev == b.prev && sameL sameE a.entries b.entries && a.stream == b.stream && a.sign == b.sign
theorem sameS_eq (a b : Ses) (h : sameS a b = true) : a = b := by
  unfold sameS at h
  simp only [Bool.and_eq_true, beq_iff_eq] at h
  obtain ⟨⟨⟨⟨⟨h1, h2⟩, h3⟩, h4⟩, h5⟩, h6⟩ := h
  have h4 := sameL_eq sameE_eq h4
  cases a; cases b
  simp_all
set_option maxRecDepth 100000 in
theorem L0_eq : writtenL W0 = L0 := sameL_eq sameS_eq (by decide +kernel)
set_option maxRecDepth 100000 in
theorem L0_check : checkL L0 = 0 := by decide +kernel
set_option maxRecDepth 100000 in
theorem L0_sum1 : Blk.sum [111, 110, 101] = lit1.digest := by decide +kernel
set_option maxRecDepth 100000 in
theorem L0_sum2 : Blk.sum [116, 119, 111] = lit2.digest := by decide +kernel
set_option maxRecDepth 100000 in
theorem L0_get1 : getB (L0.map (·.stream)) lit1.exts = ([111, 110, 101], 0) := by decide +kernel
set_option maxRecDepth 100000 in
theorem L0_get2 : getB (L0.map (·.stream)) lit2.exts = ([116, 119, 111], 0) := by decide +kernel
theorem L0_err : entErr lit1 = 0 ∧ entErr lit2 = 0 ∧ entErr lit3 = 0 := by decide +kernel
theorem L0_t30 : (afterS (L0.take (asOf L0 30))).tree = [] := sameL_eq sameE_eq (by decide +kernel)
theorem L0_t10 : (afterS (L0.take (asOf L0 10))).tree = [lit1] := sameL_eq sameE_eq (by decide +kernel)
theorem L0_text1 : (sesText litS1).length ≤ 90000000 := by decide +kernel
theorem L0_text2 : (sesText litS2).length ≤ 90000000 := by decide +kernel
theorem L0_text3 : (sesText litS3).length ≤ 90000000 := by decide +kernel
end Go.Proofs.YtbhmdcdhklgomaaGreatDoor.Top

/-
  history.stored.
-/
namespace Go.Proofs.YtbhmdcdhklgomaaGreatDoor
open Go.RowKit Top

set_option maxHeartbeats 2000000 in
set_option maxRecDepth 100000 in
theorem idxExt_any (F : FuncId) (hE : Enters Tryz.prog F) (cap : Value) (p : Ext → Bool) (tv : Value) (t : List Ext) (w : World) (ht : Flat extC 3 w tv t)
    (hF : ∀ W x, x ∈ t → Below w.heap.size w W → Calls Tryz.prog F #[.agg #[.int .i64 x.ses, .int .i64 x.off, .int .i64 x.len], cap] W fun e w' => e = .returned (.bool (p x)) ∧ Below W.heap.size W w') :
    Calls Tryz.prog 113 #[tv, .func (.func F) #[] #[cap]] w fun en w' => en = .returned (.int .i64 (idxO (t.findIdx? p))) ∧ Below w.heap.size w w' := by
  obtain ⟨ao, cp, rfl, hlc, hcm⟩ := ht.form
  have HT := Lib.hid ht
  have HF := Lib.hid hF
  have hEn : ∀ (args : Array Value) (w : World), (callFunc F args).run Tryz.prog w = .ok (.enter F args) w := hE
  clear ht hF hE
  go_enter Tryz.func113, Tryz.ntmps113
  go_wp2_with fail
  go_loopw [8] (fun i wr => ∃ k : Nat, k ≤ t.length ∧ i = .int .i64 k ∧ Hid (∀ y ∈ t.take k, p y = false) ∧ Below w.heap.size w wr) (fun i _ => t.length - (intOf i).toNat)
  case atStart => exact ⟨0, Nat.zero_le _, rfl, fun y hy => by simp at hy, Below.refl _ _⟩
  case round =>
    obtain ⟨k, hk, rfl, hok, hb⟩ := hrel
    by_cases hlt : k < t.length
    · obtain ⟨x, hx⟩ : ∃ x, t[k]? = some x := ⟨_, List.getElem?_eq_getElem (by omega)⟩
      obtain ⟨bk, o, rfl, hcell⟩ := (HT.out.below hb).get hx
      have c0 := hcell 0 _ rfl
      have c1 := hcell 1 _ rfl
      have c2 := hcell 2 _ rfl
      rw [Nat.add_zero] at c0
      have HC := Lib.hid (HF.out wr x (List.mem_of_getElem? hx) hb)
      have HX := Lib.hid hx
      obtain ⟨b, hb1⟩ : ∃ b, p x = b := ⟨_, rfl⟩
      rw [hb1] at HC
      have HB := Lib.hid hb1
      clear hx hb1 hcell
      cases b
      · go_wp2_with fail
        refine HC.out.mono ?_
        rintro en w' ⟨rfl, hb2⟩
        go_wp2_with fail
        go_roundw
        case rel => exact ⟨k + 1, by omega, by go_num, take_allf hok.out HX.out HB.out, hb.trans (hb2.mono hb.size)⟩
        case measure => simp [intOf]; omega
      · go_wp2_with fail
        refine HC.out.mono ?_
        rintro en w' ⟨rfl, hb2⟩
        go_wp2_with fail
        go_ret
        refine ⟨?_, hb.trans (hb2.mono hb.size)⟩
        rw [idxf_at hok.out HX.out HB.out]
        rfl
    · obtain rfl : k = t.length := by omega
      have h := hok.out
      rw [List.take_length] at h
      have H := Lib.hid h
      clear h
      go_wp2_with fail
      go_ret
      exact ⟨by rw [idxf_no H.out]; rfl, hb⟩
set_option maxHeartbeats 1000000 in
theorem hasExt_any (F : FuncId) (hE : Enters Tryz.prog F) (cap : Value) (p : Ext → Bool) (tv : Value) (t : List Ext) (w : World) (ht : Flat extC 3 w tv t)
    (hF : ∀ W x, x ∈ t → Below w.heap.size w W → Calls Tryz.prog F #[.agg #[.int .i64 x.ses, .int .i64 x.off, .int .i64 x.len], cap] W fun e w' => e = .returned (.bool (p x)) ∧ Below W.heap.size W w') :
    Calls Tryz.prog 76 #[tv, .func (.func F) #[] #[cap]] w fun en w' => en = .returned (.bool (t.any p)) ∧ Below w.heap.size w w' := by
  have HI := Lib.hid (idxExt_any F hE cap p tv t w ht hF)
  obtain ⟨ao, cp, rfl, _, _⟩ := ht.form
  have HR := Lib.hid (idxO_any p t)
  clear ht hF
  generalize idxO (t.findIdx? p) = j at *
  go_enter Tryz.func76, Tryz.ntmps76
  go_wp2_with fail
  refine HI.out.mono ?_
  rintro en w' ⟨rfl, hb⟩
  go_wp2_with fail
  go_ret
  exact ⟨by rw [← HR.out]; rfl, hb⟩
theorem extOut_get {l : List Ses} {x : Ext} {j : Nat} {s : Ses} (hx : x.ses = (j : Int) + 1) (hs : l[j]? = some s) : extOut l x = decide ((s.stream.length : Int) < x.off + x.len) := by
  have h1 : ¬ x.ses = 0 := by omega
  have h2 : (x.ses - 1).toNat = j := by omega
  have hj := (List.getElem?_eq_some_iff.1 hs).1
  have h3 : ¬ (l.length : Int) < x.ses := by omega
  unfold extOut
  rw [if_neg h1, h2, hs]
  simp [h3]
set_option maxHeartbeats 4000000 in
set_option maxRecDepth 100000 in
theorem storedc_any (sa : Option Addr) (sc : Nat) (l : List Ses) (x : Ext) (lb : Nat) (w : World) (hs : Sess w (.slice sa l.length sc) l) (hl : w.cell? ⟨lb, 0, none⟩ = some (.slice sa l.length sc)) (hx : ExtOk x) (hst : ∀ s ∈ l, s.stream.length ≤ 1000000000) :
    Calls Tryz.prog 77 #[.agg #[.int .i64 x.ses, .int .i64 x.off, .int .i64 x.len], .pointer (some ⟨lb, 0, none⟩)] w fun en w' => en = .returned (.bool (extOut l x)) ∧ Below w.heap.size w w' := by
  have hcap : l.length ≤ sc ∧ sc ≤ 9223372036854775807 := by
    obtain ⟨_, _, e, h1, h2⟩ := hs.form
    injection e with _ _ e3
    omega
  obtain ⟨W, hW, hbW, hzW, hBk, b0, b1, b2⟩ := xbox2 w x
  have hl := (hbW.cell (World.block_lt_of_cell? _ _ hl)).trans hl
  have HS := Lib.hid (hs.below hbW)
  obtain ⟨x1, x2, x3, x4, x5, x6, x7⟩ := hx
  clear hBk hs
  go_enter Tryz.func77, Tryz.ntmps77
  go_upto_region 1 with (fail)
  try rw [hW]
  clear hW
  by_cases k1 : x.ses = 0
  · have HR : Hid (extOut l x = false) := by
      show _ = _
      unfold extOut
      rw [if_pos k1]
    clear x7
    go_wp2_with fail
    go_ret
    exact ⟨by rw [HR.out]; rfl, hbW⟩
  by_cases k2 : (l.length : Int) < x.ses
  · have HR : Hid (extOut l x = true) := by
      show _ = _
      unfold extOut
      rw [if_neg k1]
      simp [k2]
    have q1 : (x.ses == 0) = false := beq_eq_false_iff_ne.2 k1
    have q2 : decide ((l.length : Int) < x.ses) = true := decide_eq_true k2
    clear x7 k1
    go_wp2_with fail
    go_quiet (fail)
    go_wp2_with fail
    go_ret
    exact ⟨by rw [HR.out]; rfl, below_drewN hbW _⟩
  · obtain ⟨j, hj⟩ : ∃ j : Nat, x.ses = (j : Int) + 1 := ⟨(x.ses - 1).toNat, by omega⟩
    have hjl : j < l.length := by omega
    obtain ⟨s, hsj⟩ : ∃ s, l[j]? = some s := ⟨_, List.getElem?_eq_getElem hjl⟩
    have HR := Lib.hid (extOut_get hj hsj)
    have hsl := hst s (List.mem_of_getElem? hsj)
    obtain ⟨bk, o, ea, ec, rfl, _, _, _, _, _, c4, _⟩ := HS.out.get hsj
    have q1 : (x.ses == 0) = false := beq_eq_false_iff_ne.2 k1
    have q2 : decide ((l.length : Int) < x.ses) = false := decide_eq_false k2
    have q3 : IntKind.i64.wrap (x.off + x.len) = x.off + x.len := by rw [IntKind.wrap_i64]; omega
    have q4 : IntKind.i64.wrap (x.ses - 1) = (j : Int) := by rw [IntKind.wrap_i64]; omega
    have q5 : (0 : Int) ≤ (j : Int) := by omega
    have q6 : (j : Int) < (l.length : Int) := by omega
    clear x7 k1 k2 hsj hst hj
    go_wp2_with fail
    go_quiet (fail)
    go_wp2_with fail
    go_ret
    exact ⟨by rw [HR.out]; rfl, below_drewN hbW _⟩
set_option maxHeartbeats 2000000 in
set_option maxRecDepth 100000 in
theorem stored_any (sa : Option Addr) (sc : Nat) (l : List Ses) (ev : Value) (e : Ent) (w : World) (hs : Sess w (.slice sa l.length sc) l) (hev : EntV w ev e) (hx : ∀ x ∈ e.exts, ExtOk x) (hst : ∀ s ∈ l, s.stream.length ≤ 1000000000) :
    Calls Tryz.prog 38 #[.slice sa l.length sc, ev] w fun en w' => en = .returned (.bool (Top.stored l e)) ∧ Below w.heap.size w w' := by
  obtain ⟨aa, ac, ea, ec, rfl, _, hfe⟩ := hev
  have hB := heap_alloc_new w (.cells #[.slice sa l.length sc] 28)
  have hbA := (Below.refl _ w).alloc (Nat.le_refl _) (.cells #[.slice sa l.length sc] 28)
  have hsz : (w.alloc (.cells #[.slice sa l.length sc] 28)).heap.size = w.heap.size + 1 := by simp
  generalize hA : w.alloc (.cells #[.slice sa l.length sc] 28) = A at *
  obtain ⟨W, hW, hbW, _, e0, e1, e2, e3, e4, e5, e6⟩ := ebox A e (.slice aa e.attrs.length ac) (.slice ea e.exts.length ec)
  have hbw := hbA.trans (hbW.mono hbA.size)
  have hB := (hbW.block _ (by omega)).trans hB
  have HH := Lib.hid (hasExt_any 77 (enters_of Tryz.func77 (by kernel_rfl) rfl) (.pointer (some ⟨w.heap.size, 0, none⟩)) (extOut l) _ e.exts W (hfe.below hbw) (fun X x hxe hX => storedc_any sa sc l x w.heap.size X (hs.below (hbw.trans (hX.mono hbw.size))) ((hX.cell (p := ⟨w.heap.size, 0, none⟩) (World.block_lt_of_cell? _ _ (tcell hB 0 _ rfl))).trans (tcell hB 0 _ rfl)) (hx x hxe) hst))
  have HR : Hid (Top.stored l e = !e.exts.any (extOut l)) := rfl
  generalize e.exts.any (extOut l) = b at *
  clear hs hfe hB hx hst hsz
  go_enter Tryz.func38, Tryz.ntmps38
  go_upto_region 1 with (fail)
  try rw [hA]
  try rw [hW]
  clear hA hW
  go_wp2_with fail
  refine HH.out.mono ?_
  rintro en w1 ⟨rfl, hb⟩
  go_wp2_with fail
  go_ret
  exact ⟨by rw [HR.out]; rfl, hbw.trans (hb.mono hbw.size)⟩
end Go.Proofs.YtbhmdcdhklgomaaGreatDoor

/-
  history.Check of sessions that are in order.
-/
namespace Go.Proofs.YtbhmdcdhklgomaaGreatDoor
open Go.RowKit Top

theorem dirDigest_ok {s : Ses} (h : SignOk s) : dirDigest s = (digestB s, 0) := by
  have h1 : fieldsErr s = 0 := by
    unfold fieldsErr
    have := h.num0
    have := h.num1
    have := h.ok.date0
    have := h.ok.date1
    rw [if_neg (by omega), if_neg]
    rintro ⟨g1, g2⟩
    rcases h.prev with g | g
    · exact g1 g
    · exact g2 g
  have h2 : encErr s.entries = 0 := by
    have := h.ok.each
    generalize s.entries = l at this
    induction l with
    | nil => rfl
    | cons e l ih =>
      unfold encErr
      rw [if_neg (by simpa using this e (by simp))]
      exact ih (fun x hx => this x (by simp [hx]))
  have h3 : signedE s = (sesText s, 0) := by
    unfold signedE
    have := h.stream
    have := h.ok.entries
    have := h.sign
    have := h.text
    rw [if_neg (by simpa using h1), if_neg (by omega), if_neg (by simpa using h2), if_neg (by omega)]
  unfold dirDigest
  rw [h3]
  rfl
/-- The state in its box. -/
def StJ (w : World) (b : Nat) (s : St) (X : World) : Prop := ∃ ta tc ha hc, X.heap[b]? = some (.cells #[.slice ta s.tree.length tc, .slice ha s.holds.length hc] 83 (0, 0)) ∧
  Ents X (.slice ta s.tree.length tc) s.tree ∧ Holds X (.slice ha s.holds.length hc) s.holds ∧ Below w.heap.size w X ∧ w.heap.size ≤ b
theorem StJ.below {w X Y : World} {b : Nat} {s : St} (h : StJ w b s X) (hb : Below X.heap.size X Y) : StJ w b s Y := by
  obtain ⟨ta, tc, ha, hc, h1, h3, h4, h5, h6⟩ := h
  exact ⟨ta, tc, ha, hc, (hb.block _ (Array.getElem?_eq_some_iff.1 h1).1).trans h1, h3.below hb, h4.below hb, h5.trans (hb.mono h5.size), h6⟩
theorem StJ.drewN {w X : World} {b n : Nat} {s : St} (h : StJ w b s X) : StJ w b s (X.drewN n) := h.below (below_drewN (Below.refl _ _) n)

set_option maxHeartbeats 8000000 in
set_option maxRecDepth 100000 in
theorem check_ok (sa : Option Addr) (sc : Nat) (l : List Ses) (w : World) (hs : Sess w (.slice sa l.length sc) l) (hg : Ground w) (hok : HistOk l) (hso : ∀ s ∈ l, SignOk s) (hch : checkL l = 0) :
    Calls Tryz.prog 14 #[.slice sa l.length sc] w fun en w' => en = .returned (.int .i64 0) ∧ Below w.heap.size w w' := by
  have hcap : l.length ≤ sc ∧ sc ≤ 9223372036854775807 := by
    obtain ⟨_, _, e, h1, h2⟩ := hs.form
    injection e with _ _ e3
    omega
  have hB0 := heap_alloc_new w (.cells #[.slice none 0 0, .slice none 0 0] 83)
  have hbA := (Below.refl _ w).alloc (Nat.le_refl _) (.cells #[.slice none 0 0, .slice none 0 0] 83)
  have HS := Lib.hid hs
  have HG := Lib.hid hg
  have HSO := Lib.hid hso
  have HCT := Lib.hid hok.count
  have hll := hok.len
  have H0 : Hid (checkGo l 0 [] 0 Top.empty (l.drop 0) = 0) := hch
  have HJ0 : Hid (StJ w w.heap.size Top.empty (w.alloc (.cells #[.slice none 0 0, .slice none 0 0] 83))) := Lib.hid ⟨none, 0, none, 0, hB0, Ents.nil _, Flat.nil _ _ _, hbA, Nat.le_refl _⟩
  clear hs hg hok hso hch hB0 hbA
  go_enter Tryz.func14, Tryz.ntmps14
  go_wp2_with fail
  go_loopw [4, 5, 14] (fun p d i wr => ∃ (k : Nat) (prev : Bs) (date : Int) (st : St), k ≤ l.length ∧ p = .string ⟨prev.toArray⟩ ∧ d = .int .i64 date ∧ i = .int .i64 k ∧ Hid (checkGo l k prev date st (l.drop k) = 0) ∧ Hid (StJ w w.heap.size st wr) ∧ Hid (StOk (count (l.take k)) st)) (fun _ _ i _ => l.length - (intOf i).toNat)
  case atStart => exact ⟨0, [], 0, Top.empty, Nat.zero_le _, rfl, rfl, rfl, H0, HJ0, Lib.hid (stOk_empty.mono (Nat.zero_le _))⟩
  case round =>
    obtain ⟨k, prev, date, st, hk, rfl, rfl, rfl, hch, hJ, hSt⟩ := hrel
    have hbr : Below w.heap.size w wr := by
      obtain ⟨_, _, _, _, _, _, _, h, _⟩ := hJ.out
      exact h
    by_cases hlt : k < l.length
    · obtain ⟨s, hsk⟩ : ∃ s, l[k]? = some s := ⟨_, List.getElem?_eq_getElem hlt⟩
      have hso := HSO.out s (List.mem_of_getElem? hsk)
      have hc2 := hch.out
      rw [drop_at hsk, checkGo, dirDigest_ok hso, if_neg (by simp)] at hc2
      have g1 : ¬ (s.num ≠ (k : Int) + 1 ∨ s.date < date) := fun h => by
        rw [if_pos h] at hc2
        cases hc2
      rw [if_neg g1] at hc2
      have g2 : s.prev = prev := by
        rcases Decidable.em (s.prev ≠ prev) with h | h
        · rw [if_pos h] at hc2
          cases hc2
        · exact Decidable.not_not.1 h
      rw [if_neg (by simpa using g2)] at hc2
      have g3 : (checkEs (l.take (k + 1)) s.date st s.entries).2 = 0 := by
        rcases Decidable.em ((checkEs (l.take (k + 1)) s.date st s.entries).2 ≠ 0) with h | h
        · rw [if_pos h] at hc2
          exact absurd hc2 h
        · exact Decidable.not_not.1 h
      rw [if_neg (by simpa using g3)] at hc2
      obtain ⟨stE, hE⟩ : ∃ stE, checkEs (l.take (k + 1)) s.date st (s.entries.drop 0) = (stE, 0) := ⟨_, Prod.ext rfl g3⟩
      have hE' : (checkEs (l.take (k + 1)) s.date st s.entries).1 = stE := by
        show (checkEs (l.take (k + 1)) s.date st (s.entries.drop 0)).1 = stE
        rw [hE]
      rw [hE'] at hc2
      have hcnt : count (l.take (k + 1)) = count (l.take k) + s.entries.length := by
        unfold count
        rw [List.map_take, List.map_take]
        exact take_sum (by rw [List.getElem?_map, hsk]; rfl)
      have hcle : count (l.take (k + 1)) ≤ 60000 := Nat.le_trans (count_take l (k + 1)) HCT.out
      obtain ⟨bk, o, ea, ec, hoo, hen, c0, c1, c2, c3, c4, c5⟩ := (HS.out).get hsk
      subst hoo
      have c0 := (hbr.cell (World.block_lt_of_cell? _ _ c0)).trans c0
      have c1 := (hbr.cell (World.block_lt_of_cell? _ _ c1)).trans c1
      have c2 := (hbr.cell (World.block_lt_of_cell? _ _ c2)).trans c2
      have c3 := (hbr.cell (World.block_lt_of_cell? _ _ c3)).trans c3
      have c4 := (hbr.cell (World.block_lt_of_cell? _ _ c4)).trans c4
      have c5 := (hbr.cell (World.block_lt_of_cell? _ _ c5)).trans c5
      obtain ⟨V, hV, hbV, hzV, hblk, b0, b1, b2, b3, b4, b5⟩ := box6 wr (.int .i64 s.num) (.int .i64 s.date) (.string ⟨s.prev.toArray⟩) (.slice ea s.entries.length ec) (.string ⟨s.stream.toArray⟩) (.string ⟨s.sign.toArray⟩) 39
      have hJV := Lib.hid (hJ.out.below hbV)
      have hbVw := hbr.trans (hbV.mono hbr.size)
      have HDD := Lib.hid (ddigest_any (.agg #[.int .i64 s.num, .int .i64 s.date, .string ⟨s.prev.toArray⟩, .slice ea s.entries.length ec, .string ⟨s.stream.toArray⟩, .string ⟨s.sign.toArray⟩]) s V ⟨ea, ec, rfl, hen.below hbVw⟩ (HG.out.below hbVw) hso)
      have hSV : wr.heap.size < V.heap.size := by omega
      have hnw : wr.heap.size ≠ w.heap.size := by
        obtain ⟨_, _, _, _, h, _⟩ := hJ.out
        have := (Array.getElem?_eq_some_iff.1 h).1
        omega
      have HBK := Lib.hid hblk
      have HENW := Lib.hid hen
      have HC2 := Lib.hid hc2
      have HES := Lib.hid hE
      have HCN := Lib.hid hcnt
      have HOK := Lib.hid hso.ok
      have HSK := Lib.hid hsk
      have hst2 := hSt.out
      have HST := Lib.hid (hst2.mono (Nat.le_refl _))
      have q1 : (s.num != (k : Int) + 1) = false := by simp; omega
      have q2 : ¬ s.date < date := by omega
      have hent := hso.ok.entries
      subst g2
      clear g1 g3 hE hE' hc2 hcnt hen hzV hblk hso hsk hst2 hch hJ hSt
      go_upto_region 6 with (fail)
      try rw [hV]
      clear hV
      go_wp2_with fail
      refine HDD.out.mono ?_
      rintro en w2 ⟨rfl, hb2⟩
      have hbk2 := (hb2.block _ hSV).trans HBK.out
      have b0 := tcell hbk2 0 (.int .i64 s.num) rfl
      have b1 := tcell hbk2 1 (.int .i64 s.date) rfl
      have b2 := tcell hbk2 2 (.string ⟨s.prev.toArray⟩) rfl
      have b3 := tcell hbk2 3 (.slice ea s.entries.length ec) rfl
      have b4 := tcell hbk2 4 (.string ⟨s.stream.toArray⟩) rfl
      have b5 := tcell hbk2 5 (.string ⟨s.sign.toArray⟩) rfl
      have hJ2 := Lib.hid (hJV.out.below hb2)
      have hS2 : wr.heap.size < w2.heap.size := Nat.lt_of_lt_of_le hSV hb2.size
      have HBK2 := Lib.hid hbk2
      clear hJV HBK hbk2
      generalize wr.heap.size = SB at *
      go_wp2_with fail
      go_quiet (fail)
      have hJ3 := Lib.hid (hJ2.out.drewN (n := nq))
      have HBK3 : Hid ((w2.drewN nq).heap[SB]? = some (.cells #[.int .i64 s.num, .int .i64 s.date, .string ⟨s.prev.toArray⟩, .slice ea s.entries.length ec, .string ⟨s.stream.toArray⟩, .string ⟨s.sign.toArray⟩] 39 (0, 0))) := HBK2
      have b3 : (w2.drewN nq).cell? ⟨SB, 3, none⟩ = some (.slice ea s.entries.length ec) := b3
      clear hJ2 HBK2 b0 b1 b2 b4 b5
      generalize w2.drewN nq = w3 at *
      go_wp2_with fail
      go_loopw [51] (fun i wx => ∃ (m : Nat) (st' : St), m ≤ s.entries.length ∧ i = .int .i64 m ∧ Hid (checkEs (l.take (k + 1)) s.date st' (s.entries.drop m) = (stE, 0)) ∧ Hid (StJ w w.heap.size st' wx) ∧ Hid (StOk (count (l.take k) + m) st') ∧ Hid (wx.heap[SB]? = some (.cells #[.int .i64 s.num, .int .i64 s.date, .string ⟨s.prev.toArray⟩, .slice ea s.entries.length ec, .string ⟨s.stream.toArray⟩, .string ⟨s.sign.toArray⟩] 39 (0, 0)))) (fun i _ => s.entries.length - (intOf i).toNat)
      case atStart => exact ⟨0, st, Nat.zero_le _, rfl, HES, hJ3, HST, HBK3⟩
      case round =>
        obtain ⟨m, st', hm, rfl, hes, hjx, hso, hbx⟩ := hrel
        have hbxw : Below w.heap.size w wr := by
          obtain ⟨_, _, _, _, _, _, _, h, _⟩ := hjx.out
          exact h
        by_cases hml : m < s.entries.length
        · obtain ⟨e, he⟩ : ∃ e, s.entries[m]? = some e := ⟨_, List.getElem?_eq_getElem hml⟩
          have hes2 := hes.out
          rw [drop_at he, checkEs] at hes2
          have g1 : (applyS st' e s.date).1 = 0 := by
            rcases Decidable.em ((applyS st' e s.date).1 ≠ 0) with h | h
            · rw [if_pos h] at hes2
              exact absurd (congrArg (·.2) hes2) h
            · exact Decidable.not_not.1 h
          rw [if_neg (by simpa using g1)] at hes2
          have g2 : Top.stored (l.take (k + 1)) e = true := by
            cases h : Top.stored (l.take (k + 1)) e with
            | true => rfl
            | false =>
              rw [if_pos h] at hes2
              exact absurd (congrArg (·.2) hes2) (show ¬ ((2 : Int) = 0) by decide)
          rw [if_neg (by simp [g2])] at hes2
          have heo := HOK.out.each e (List.mem_of_getElem? he)
          have hve := valid heo
          have hvp := hve.path
          have hvt := hve.target
          obtain ⟨bk2, o2, xa, xac, xe, xec, hoo2, hfa, hfe, n0, n1, n2, n3, n4, n5, n6⟩ := (HENW.out).get he
          subst hoo2
          have n0 := (hbxw.cell (World.block_lt_of_cell? _ _ n0)).trans n0
          have n1 := (hbxw.cell (World.block_lt_of_cell? _ _ n1)).trans n1
          have n2 := (hbxw.cell (World.block_lt_of_cell? _ _ n2)).trans n2
          have n3 := (hbxw.cell (World.block_lt_of_cell? _ _ n3)).trans n3
          have n4 := (hbxw.cell (World.block_lt_of_cell? _ _ n4)).trans n4
          have n5 := (hbxw.cell (World.block_lt_of_cell? _ _ n5)).trans n5
          have n6 := (hbxw.cell (World.block_lt_of_cell? _ _ n6)).trans n6
          obtain ⟨U, hU, hbU, hzU, e0, e1, e2, e3, e4, e5, e6⟩ := ebox wr e (.slice xa e.attrs.length xac) (.slice xe e.exts.length xec)
          have hkU : U.heap[wr.heap.size]? = some (.cells #[.int .i64 e.kind, .string ⟨e.path.toArray⟩, .slice xa e.attrs.length xac, .string ⟨e.target.toArray⟩, .int .i64 e.size, .string ⟨e.digest.toArray⟩, .slice xe e.exts.length xec] 43 (0, 0)) := by
            rw [← hU]
            exact heap_alloc_new wr _
          have hbUw := hbxw.trans (hbU.mono hbxw.size)
          obtain ⟨ta, tc, ha, hc, j1, j2, j3, _, _⟩ := hjx.out.below hbU
          have hoks := hso.out
          have hhs := hoks.holds
          have hth := hoks.tree
          have HSA := Lib.hid (sapply_any _ (.agg #[.int .i64 e.kind, .string ⟨e.path.toArray⟩, .slice xa e.attrs.length xac, .string ⟨e.target.toArray⟩, .int .i64 e.size, .string ⟨e.digest.toArray⟩, .slice xe e.exts.length xec]) st' e s.date U ⟨ta, tc, ha, hc, rfl, j2, j3⟩ ⟨_, _, _, _, rfl, hfa.below hbUw, hfe.below hbUw⟩ (HG.out.below hbUw) (by omega) (by have := HCN.out; omega) hoks.paths hoks.fits (by omega) (by omega))
          rw [g1] at HSA
          have HOK2 := Lib.hid (applyS_ok hoks heo s.date)
          have hbkU := (hbU.block _ (Array.getElem?_eq_some_iff.1 hbx.out).1).trans hbx.out
          have y0 := tcell j1 0 (.slice ta st'.tree.length tc) rfl
          have y1 := tcell j1 1 (.slice ha st'.holds.length hc) rfl
          have s1 := tcell hbkU 1 (.int .i64 s.date) rfl
          have hlb := (Array.getElem?_eq_some_iff.1 j1).1
          have hlS := (Array.getElem?_eq_some_iff.1 hbkU).1
          have hlE := (Array.getElem?_eq_some_iff.1 hkU).1
          have hneE : wr.heap.size ≠ w.heap.size := by
            obtain ⟨_, _, _, _, h, _⟩ := hjx.out
            have := (Array.getElem?_eq_some_iff.1 h).1
            omega
          have J1 := Lib.hid j1
          have HKU := Lib.hid hkU
          have HSBU := Lib.hid hbkU
          have HES2 := Lib.hid hes2
          have HG2 := Lib.hid g2
          have HFE := Lib.hid hfe
          have HFA := Lib.hid hfa
          have HEX := Lib.hid (exts_ok heo)
          generalize hAS : (applyS st' e s.date).2 = st2 at *
          clear hes2 g1 g2 heo hve hzU hfa hfe j1 j2 j3 hoks hkU hbkU he hAS hhs hth hes hjx hso hbx
          go_upto_region 17 with (fail)
          try rw [hU]
          clear hU
          generalize wr.heap.size = EB at *
          go_wp2_with fail
          refine HSA.out.mono ?_
          rintro en X2 ⟨v', rfl, ⟨ta2, tc2, ha2, hc2, rfl, m1, m2⟩, hbX2⟩
          have k1 := (hbX2.block _ hlb).trans J1.out
          have kE := (hbX2.block _ hlE).trans HKU.out
          have kS := (hbX2.block _ hlS).trans HSBU.out
          have y0 := tcell k1 0 (.slice ta st'.tree.length tc) rfl
          have y1 := tcell k1 1 (.slice ha st'.holds.length hc) rfl
          have z0 := tfree k1 0
          have z1 := tfree k1 1
          obtain ⟨t1, t2⟩ := set2 k1 (.slice ta2 st2.tree.length tc2) (.slice ha2 st2.holds.length hc2)
          have hbX := hbUw.trans (hbX2.mono hbUw.size)
          have hOt := Oth.of_grown t2
          have kE2 := hOt.get kE hneE
          have kS2 := hOt.get kS hnw
          have hJY : StJ w w.heap.size st2 ((X2.setCell ⟨w.heap.size, 0, none⟩ (.slice ta2 st2.tree.length tc2)).setCell ⟨w.heap.size, 1, none⟩ (.slice ha2 st2.holds.length hc2)) :=
            ⟨ta2, tc2, ha2, hc2, t1, m1.apart k1 (show ¬ ([1, 1] : List Nat) <:+: [2, 2] from by decide) (show ¬ ([0, 0, 0] : List Nat) <:+: [2, 2] from by decide) (show ¬ ([0, 1, 2, 1, 0, 1, 2] : List Nat) <:+: [2, 2] from by decide) t2, holds_apart m2 k1 (show ¬ ([1, 0] : List Nat) <:+: [2, 2] from by decide) t2, hbX.grown t2 hbX.size (fun q e => by injection e with e; omega), Nat.le_refl _⟩
          have HJY := Lib.hid hJY
          have KE := Lib.hid kE2
          have KS := Lib.hid kS2
          clear m1 m2 t1 t2 hOt kE2 kS2 kE kS k1 hJY HSA
          go_upto_region 20 with (fail)
          generalize (X2.setCell ⟨w.heap.size, 0, none⟩ (.slice ta2 st2.tree.length tc2)).setCell ⟨w.heap.size, 1, none⟩ (.slice ha2 st2.holds.length hc2) = Y at *
          have hbY : Below w.heap.size w Y := by
            obtain ⟨_, _, _, _, _, _, _, h, _⟩ := HJY.out
            exact h
          have hln : (l.take (k + 1)).length = k + 1 := by
            rw [List.length_take]
            omega
          have hstd := stored_any (some ⟨bk, o, none⟩) sc (l.take (k + 1)) (.agg #[.int .i64 e.kind, .string ⟨e.path.toArray⟩, .slice xa e.attrs.length xac, .string ⟨e.target.toArray⟩, .int .i64 e.size, .string ⟨e.digest.toArray⟩, .slice xe e.exts.length xec]) e Y.drew (by
            have h := (HS.out.below hbY.drew).take (k + 1)
            exact h) ⟨_, _, _, _, rfl, HFA.out.below hbY.drew, HFE.out.below hbY.drew⟩ HEX.out (fun z hz => (HSO.out z (List.mem_of_mem_take hz)).ok.stream)
          rw [hln, HG2.out] at hstd
          have HSTD := Lib.hid hstd
          have hlY := (Array.getElem?_eq_some_iff.1 KE.out).1
          have x0 : Y.drew.cell? ⟨EB, 0, none⟩ = some (.int .i64 e.kind) := tcell KE.out 0 (.int .i64 e.kind) rfl
          have x1 : Y.drew.cell? ⟨EB, 1, none⟩ = some (.string ⟨e.path.toArray⟩) := tcell KE.out 1 (.string ⟨e.path.toArray⟩) rfl
          have x2 : Y.drew.cell? ⟨EB, 2, none⟩ = some (.slice xa e.attrs.length xac) := tcell KE.out 2 (.slice xa e.attrs.length xac) rfl
          have x3 : Y.drew.cell? ⟨EB, 3, none⟩ = some (.string ⟨e.target.toArray⟩) := tcell KE.out 3 (.string ⟨e.target.toArray⟩) rfl
          have x4 : Y.drew.cell? ⟨EB, 4, none⟩ = some (.int .i64 e.size) := tcell KE.out 4 (.int .i64 e.size) rfl
          have x5 : Y.drew.cell? ⟨EB, 5, none⟩ = some (.string ⟨e.digest.toArray⟩) := tcell KE.out 5 (.string ⟨e.digest.toArray⟩) rfl
          have x6 : Y.drew.cell? ⟨EB, 6, none⟩ = some (.slice xe e.exts.length xec) := tcell KE.out 6 (.slice xe e.exts.length xec) rfl
          have v1 : IntKind.i64.wrap ((k : Int) + 1) = (k : Int) + 1 := by rw [IntKind.wrap_i64]; omega
          have v2 : (0 : Int) ≤ (k : Int) + 1 := by omega
          have v3 : (k : Int) + 1 ≤ (sc : Int) := by omega
          have v4 : ((k : Int) + 1).toNat = k + 1 := by omega
          have v5 : k + 1 ≤ sc := by omega
          clear hstd hln
          go_region_held3 (fun w' => w'.cell? ⟨EB, 0, none⟩ = some (.int .i64 e.kind) ∧ w'.cell? ⟨EB, 1, none⟩ = some (.string ⟨e.path.toArray⟩) ∧ w'.cell? ⟨EB, 2, none⟩ = some (.slice xa e.attrs.length xac) ∧ w'.cell? ⟨EB, 3, none⟩ = some (.string ⟨e.target.toArray⟩) ∧ w'.cell? ⟨EB, 4, none⟩ = some (.int .i64 e.size) ∧ w'.cell? ⟨EB, 5, none⟩ = some (.string ⟨e.digest.toArray⟩) ∧ w'.cell? ⟨EB, 6, none⟩ = some (.slice xe e.exts.length xec)) (first | with_reducible exact ⟨x0, x1, x2, x3, x4, x5, x6⟩ | with_reducible exact ⟨p0, p1, p2, p3, p4, p5, p6⟩ | go_keep) ((go_at_call 38; refine HSTD.out.mono ?_; rintro en Y2 ⟨rfl, hY2⟩; have p0 := cell_on hY2 hlY x0; have p1 := cell_on hY2 hlY x1; have p2 := cell_on hY2 hlY x2; have p3 := cell_on hY2 hlY x3; have p4 := cell_on hY2 hlY x4; have p5 := cell_on hY2 hlY x5; have p6 := cell_on hY2 hlY x6))
          all_goals
            have hYY : Below Y.heap.size Y Y2 := ((Below.refl _ Y).drew).trans hY2
            have HJ9 := Lib.hid (HJY.out.below hYY)
            have HS9 := Lib.hid ((hYY.block _ (Array.getElem?_eq_some_iff.1 KS.out).1).trans KS.out)
            go_wp2_with fail
            go_roundw
            case rel => exact ⟨m + 1, st2, by omega, by go_num, HES2, HJ9, HOK2, HS9⟩
            case measure => simp [intOf]; omega
        · obtain rfl : m = s.entries.length := by omega
          have hes2 := hes.out
          rw [List.drop_length, checkEs] at hes2
          injection hes2 with hes2 _
          subst hes2
          have hs3 := hso.out
          rw [← HCN.out] at hs3
          have HS3 := Lib.hid hs3
          clear hs3 hso hes
          go_wp2_with fail
          go_roundw
          case rel => exact ⟨k + 1, digestB s, s.date, _, by omega, rfl, rfl, by go_num, HC2, hjx, HS3⟩
          case measure => simp [intOf]; omega
    · obtain rfl : k = l.length := by omega
      go_wp2_with fail
      go_ret
      exact ⟨rfl, hbr⟩
end Go.Proofs.YtbhmdcdhklgomaaGreatDoor
