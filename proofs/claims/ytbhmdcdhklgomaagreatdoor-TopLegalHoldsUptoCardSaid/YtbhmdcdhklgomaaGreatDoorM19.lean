/-
  entry.Encode.
-/
import Derived.Test.YtbhmdcdhklgomaaGreatDoorM18
namespace Go.Proofs.YtbhmdcdhklgomaaGreatDoor
open Go.RowKit Top

theorem num_len (n : Int) (h0 : -9223372036854775808 ≤ n) (h1 : n ≤ 9223372036854775807) : (num n).length ≤ 22 := by
  have := itoa_len n h0 h1
  unfold num
  simp only [List.length_append, List.length_cons, List.length_nil]
  omega
theorem headB_len {e : Ent} (h : Valid e) : (headB e).length ≤ 5000 := by
  have hs0 : (strs [kindNames.getD (e.kind - 1).toNat [], e.path]).length ≤ 2 * (200 + 23) := by
    refine strs_len [kindNames.getD (e.kind - 1).toNat [], e.path] 200 (fun x hx => ?_) (by decide)
    simp only [List.mem_cons, List.not_mem_nil, or_false] at hx
    rcases hx with rfl | rfl
    · have h0 := h.kind0
      have h1 := h.kind1
      have : (e.kind - 1).toNat = 0 ∨ (e.kind - 1).toNat = 1 ∨ (e.kind - 1).toNat = 2 ∨ (e.kind - 1).toNat = 3 ∨ (e.kind - 1).toNat = 4 ∨ (e.kind - 1).toNat = 5 := by omega
      rcases this with h | h | h | h | h | h <;> rw [h] <;> decide
    · exact h.path
  have hs1 : (e.attrs.flatMap attrB).length ≤ 16 * 200 := by
    have h1 := flatMap_len attrB 200 e.attrs (fun a ha => by
      have h2 := h.attr a ha
      exact Nat.le_trans (strs_len [a.key, a.val] 64 (fun x hx => by
        simp only [List.mem_cons, List.not_mem_nil, or_false] at hx
        rcases hx with rfl | rfl <;> omega) (by decide)) (by show 2 * (64 + 23) ≤ 200; decide))
    have h3 := h.attrs
    have : e.attrs.length * 200 ≤ 16 * 200 := Nat.mul_le_mul_right _ h3
    omega
  have hs2 := num_len e.attrs.length (by omega) (by have := h.attrs; omega)
  have hs3 := str_len e.target (by have := h.target; omega)
  have := h.target
  unfold headB
  simp only [List.length_append]
  omega
theorem extB_len {x : Ext} (h : 0 ≤ x.ses ∧ x.ses ≤ 255 ∧ 1 ≤ x.len ∧ x.len ≤ 65536 ∧ 0 ≤ x.off ∧ x.off ≤ 2147483647) : (extB x).length ≤ 66 := by
  have h1 := num_len x.ses (by omega) (by omega)
  have h2 := num_len x.off (by omega) (by omega)
  have h3 := num_len x.len (by omega) (by omega)
  unfold extB
  simp only [List.length_append]
  omega
theorem xbox2 (w : World) (x : Ext) : ∃ W, w.alloc (.cells #[.int .i64 x.ses, .int .i64 x.off, .int .i64 x.len] 93) = W ∧ Below w.heap.size w W ∧ w.heap.size < W.heap.size ∧ W.heap[w.heap.size]? = some (.cells #[.int .i64 x.ses, .int .i64 x.off, .int .i64 x.len] 93 (0, 0)) ∧
    W.cell? ⟨w.heap.size, 0, none⟩ = some (.int .i64 x.ses) ∧ W.cell? ⟨w.heap.size, 1, none⟩ = some (.int .i64 x.off) ∧ W.cell? ⟨w.heap.size, 2, none⟩ = some (.int .i64 x.len) := by
  have e := heap_alloc_new w (.cells #[.int .i64 x.ses, .int .i64 x.off, .int .i64 x.len] 93)
  exact ⟨_, rfl, (Below.refl _ w).alloc (Nat.le_refl _) _, by simp, e, tcell e 0 _ rfl, tcell e 1 _ rfl, tcell e 2 _ rfl⟩
theorem string_add (a b : ByteArray) (h : a.size + b.size ≤ 9223372036854775807) : Op.stringOp .add a b = pure (.string (a ++ b)) := by
  have e : ¬ (((a.size + b.size : Nat) : Int) > IntKind.i64.max) := by
    have : IntKind.i64.max = 9223372036854775807 := by decide
    omega
  unfold Op.stringOp
  simp only [if_neg e]
theorem cell_on {w w' : World} {b i : Nat} {u : Value} (hb : Below w.heap.size w w') (hl : b < w.heap.size) (h : w.cell? ⟨b, i, none⟩ = some u) : w'.cell? ⟨b, i, none⟩ = some u := (hb.cell (p := ⟨b, i, none⟩) hl).trans h

set_option maxHeartbeats 4000000 in
set_option maxRecDepth 100000 in
theorem encode_any (v : Value) (e : Ent) (w : World) (hev : EntV w v e) (hg : Ground w) (hP : e.path.length ≤ 16777216) (hT : e.target.length ≤ 16777216) :
    Calls Tryz.prog 79 #[v] w fun en w' => en = .returned (.tuple #[.string ⟨(encE e).2.toArray⟩, .int .i64 (encE e).1]) ∧ Below w.heap.size w w' := by
  have HC := Lib.hid (fun X (hX : Below w.heap.size w X) => head_any v e X (hev.below hX) (hg.below hX) hP hT)
  obtain ⟨aa, ac, ea, ec, rfl, hev1, hev2⟩ := hev
  obtain ⟨W, hW, hbW, hzW, d0, d1, d2, d3, d4, d5, d6⟩ := ebox w e (.slice aa e.attrs.length ac) (.slice ea e.exts.length ec)
  have HC := Lib.hid (HC.out W hbW)
  have hlw : w.heap.size < W.heap.size := by omega
  clear hzW
  by_cases herr : entErr e = 0
  · have hv := valid herr
    have HG := Lib.hid hg
    have HX := Lib.hid hev2
    have hhd : headE e = (0, headB e) := if_neg (by simpa using herr)
    have hed : encE e = (0, encB e) := if_neg (by simpa using herr)
    rw [hhd] at HC
    have HEN : Hid (encE e = (0, encB e)) := hed
    have h1 := headB_len hv
    have h2 := hv.size0
    have h3 := hv.size1
    have h4 := hv.digest
    have h5 := hv.exts
    have h6 := Lib.hid hv.ext
    have s1 := str_len (headB e) (by omega)
    have s2 := num_len e.size (by omega) (by omega)
    have s3 := str_len e.digest (by omega)
    have s4 := num_len e.exts.length (by omega) (by omega)
    have HB : Hid (encB e = (((str (headB e) ++ num e.size) ++ str e.digest) ++ num e.exts.length) ++ e.exts.flatMap extB) := by
      show _ = _
      rfl
    clear hv hhd hed hev1 hev2 herr
    generalize encE e = res at *
    generalize encB e = bod at *
    generalize headB e = hd at *
    go_enter Tryz.func79, Tryz.ntmps79
    go_upto_region 1 with (fail)
    try rw [hW]
    clear hW
    go_wp2_with fail
    refine HC.out.mono ?_
    rintro en w1 ⟨rfl, hb1⟩
    have cc := fun (i : Nat) (u : Value) (h : W.cell? ⟨w.heap.size, i, none⟩ = some u) => (hb1.cell (p := ⟨w.heap.size, i, none⟩) hlw).trans h
    have d4 := cc 4 _ d4
    have d5 := cc 5 _ d5
    have d6 := cc 6 _ d6
    clear cc
    have hbw1 := hbW.trans (hb1.mono hbW.size)
    have hlw1 := Nat.lt_of_lt_of_le hlw hb1.size
    have D6 := Lib.hid d6
    go_upto_region 5 with (fail)
    have hbl := Lib.fresh_isBuilder 102 5 w1
    have hb12 := (Below.refl w1.heap.size w1).alloc (Nat.le_refl _) (.cells #[.pointer none, .slice none 0 0] 102)
    have d4 := (hb12.cell (p := ⟨w.heap.size, 4, none⟩) hlw1).trans d4
    have d5 := (hb12.cell (p := ⟨w.heap.size, 5, none⟩) hlw1).trans d5
    have d6 := (hb12.cell (p := ⟨w.heap.size, 6, none⟩) hlw1).trans d6
    generalize w1.alloc (.cells #[.pointer none, .slice none 0 0] 102) = W2 at *
    have hlw2 : w.heap.size < W2.heap.size := Nat.lt_of_lt_of_le hlw1 hb12.size
    have hbl2 : Bld w1.heap.size w1.heap.size (Lib.byteCells []) W2.drew := hbl
    have hb2 := hbw1.trans (hb12.mono hbw1.size)
    have g2 : Ground W2.drew := HG.out.below hb2.drew
    have hb12 := hb12.drew
    clear hbl
    go_cut [] (fun wx => Hid (Bld w1.heap.size w1.heap.size (Lib.byteCells (((str hd ++ num e.size) ++ str e.digest) ++ num e.exts.length)) wx) ∧ Below w1.heap.size w1 wx)
    case first =>
      have hcat : (((⟨(strB hd).toArray⟩ : ByteArray) ++ ⟨(numB e.size).toArray⟩) ++ ⟨(strB e.digest).toArray⟩) ++ ⟨(numB e.exts.length).toArray⟩ = ⟨((((str hd ++ num e.size) ++ str e.digest) ++ num e.exts.length)).toArray⟩ := by
        rw [ba_app, ba_app, ba_app]
        rfl
      have hsl : ([] : Bs).length + ((((str hd ++ num e.size) ++ str e.digest) ++ num e.exts.length)).length ≤ 140737488355328 := by
        simp only [List.length_append, List.length_nil]
        omega
      have K1 := Lib.hid (fun X (h : Ground X) => string_any hd X h (by omega))
      have K2 := Lib.hid (fun X (h : Ground X) => number_any e.size X h (by omega) (by omega))
      have K3 := Lib.hid (fun X (h : Ground X) => string_any e.digest X h (by omega))
      have K4 := Lib.hid (fun X (h : Ground X) => number_any e.exts.length X h (by omega) (by omega))
      have z1 : (⟨(strB hd).toArray⟩ : ByteArray).size ≤ 10000 := by show (str hd).length ≤ _; omega
      have z2 : (⟨(numB e.size).toArray⟩ : ByteArray).size ≤ 10000 := by show (num e.size).length ≤ _; omega
      have z3 : (⟨(strB e.digest).toArray⟩ : ByteArray).size ≤ 10000 := by show (str e.digest).length ≤ _; omega
      have z4 : (⟨(numB e.exts.length).toArray⟩ : ByteArray).size ≤ 10000 := by show (num e.exts.length).length ≤ _; omega
      generalize (⟨(strB hd).toArray⟩ : ByteArray) = S1 at *
      generalize (⟨(numB e.size).toArray⟩ : ByteArray) = S2 at *
      generalize (⟨(strB e.digest).toArray⟩ : ByteArray) = S3 at *
      generalize (⟨(numB e.exts.length).toArray⟩ : ByteArray) = S4 at *
      have HCAT := Lib.hid hcat
      clear hcat
      have y2 : (S1 ++ S2).size ≤ 20000 := by rw [ByteArray.size_append]; omega
      have y3 : ((S1 ++ S2) ++ S3).size ≤ 30000 := by rw [ByteArray.size_append]; omega
      have add1 := string_add S1 S2 (by omega)
      have add2 := string_add (S1 ++ S2) S3 (by omega)
      have add3 := string_add ((S1 ++ S2) ++ S3) S4 (by omega)
      go_region_held3 (fun w' => w'.cell? ⟨w.heap.size, 4, none⟩ = some (.int .i64 e.size) ∧ w'.cell? ⟨w.heap.size, 5, none⟩ = some (.string ⟨e.digest.toArray⟩) ∧ w'.cell? ⟨w.heap.size, 6, none⟩ = some (.slice ea e.exts.length ec)) (first | exact ⟨p54, p55, p56⟩ | exact ⟨p44, p45, p46⟩ | exact ⟨p34, p35, p36⟩ | exact ⟨p24, p25, p26⟩ | exact ⟨p14, p15, p16⟩ | exact ⟨d4, d5, d6⟩ | go_keep) ((first | (go_at_call 40; refine (K1.out W2.drew g2).mono ?_; rintro en v1 ⟨rfl, hv1⟩; have p14 := cell_on hv1 hlw2 d4; have p15 := cell_on hv1 hlw2 d5; have p16 := cell_on hv1 hlw2 d6; have l1 := Nat.lt_of_lt_of_le hlw2 hv1.size; have g11 := g2.below hv1; have b1 := bld_below hbl2 hv1; have zz1 := Nat.le_trans hb12.size hv1.size) | (go_at_call 44; refine (K2.out v1 g11).mono ?_; rintro en v2 ⟨rfl, hv2⟩; have p24 := cell_on hv2 l1 p14; have p25 := cell_on hv2 l1 p15; have p26 := cell_on hv2 l1 p16; have l2 := Nat.lt_of_lt_of_le l1 hv2.size; have g12 := g11.below hv2; have b2 := bld_below b1 hv2; have zz2 := Nat.le_trans zz1 hv2.size) | (go_at_call 40; refine (K3.out v2 g12).mono ?_; rintro en v3 ⟨rfl, hv3⟩; have p34 := cell_on hv3 l2 p24; have p35 := cell_on hv3 l2 p25; have p36 := cell_on hv3 l2 p26; have l3 := Nat.lt_of_lt_of_le l2 hv3.size; have g13 := g12.below hv3; have b3 := bld_below b2 hv3; have zz3 := Nat.le_trans zz2 hv3.size) | (go_at_call 44; refine (K4.out v3 g13).mono ?_; rintro en v4 ⟨rfl, hv4⟩; have p44 := cell_on hv4 l3 p34; have p45 := cell_on hv4 l3 p35; have p46 := cell_on hv4 l3 p36; have l4 := Nat.lt_of_lt_of_le l3 hv4.size; have g14 := g13.below hv4; have b4 := bld_below b3 hv4; have zz4 := Nat.le_trans zz3 hv4.size) | (go_at_call 43; rw [HCAT.out]; refine (write_any w1.heap.size w1.heap.size [] (((str hd ++ num e.size) ++ str e.digest) ++ num e.exts.length) v4 b4 hsl zz4).mono ?_; rintro en v5 ⟨rfl, b5, hv5, _⟩; have p54 := (hv5.cell (p := ⟨w.heap.size, 4, none⟩) hlw1).trans p44; have p55 := (hv5.cell (p := ⟨w.heap.size, 5, none⟩) hlw1).trans p45; have p56 := (hv5.cell (p := ⟨w.heap.size, 6, none⟩) hlw1).trans p46)))
      go_wp2_with fail
      go_meet
      exact ⟨Lib.hid b5, (((hb12.trans (hv1.mono hb12.size)).trans (hv2.mono zz1)).trans (hv3.mono zz2)).trans (hv4.mono zz3) |>.trans hv5⟩
    case rest =>
      obtain ⟨hbl5, hb15⟩ := hcut
      have hbx5 := hbw1.trans (hb15.mono hbw1.size)
      have d6 := (hb15.cell (p := ⟨w.heap.size, 6, none⟩) hlw1).trans D6.out
      have hpre : ((((str hd ++ num e.size) ++ str e.digest) ++ num e.exts.length)).length ≤ 6000 := by
        simp only [List.length_append]
        omega
      generalize hP : (((str hd ++ num e.size) ++ str e.digest) ++ num e.exts.length) = pre at *
      have hEX : ∀ k, ((e.exts.take k).flatMap extB).length ≤ 65536 * 66 := fun k => by
        have h1 := flatMap_len extB 66 (e.exts.take k) (fun a ha => extB_len (h6.out a (List.mem_of_mem_take ha)))
        rw [List.length_take] at h1
        have : min k e.exts.length * 66 ≤ 65536 * 66 := Nat.mul_le_mul_right _ (by omega)
        omega
      have HEX := Lib.hid hEX
      clear hEX hP
      go_wp2_with fail
      go_loopw [36] (fun i wr => ∃ k : Nat, k ≤ e.exts.length ∧ i = .int .i64 k ∧ Hid (Bld w1.heap.size w1.heap.size (Lib.byteCells (pre ++ (e.exts.take k).flatMap extB)) wr) ∧ Below w1.heap.size w1 wr) (fun i _ => e.exts.length - (intOf i).toNat)
      case atStart => exact ⟨0, Nat.zero_le _, rfl, by simpa using hbl5, hb15⟩
      case round =>
        obtain ⟨k, hk, rfl, hbl, hb⟩ := hrel
        by_cases hlt : k < e.exts.length
        · obtain ⟨x, hx⟩ : ∃ x, e.exts[k]? = some x := ⟨_, List.getElem?_eq_getElem hlt⟩
          have hbw := hbw1.trans (hb.mono hbw1.size)
          obtain ⟨bk, o, rfl, hcell⟩ := (HX.out.below hbw).get hx
          have c0 := hcell 0 _ rfl
          have c1 := hcell 1 _ rfl
          have c2 := hcell 2 _ rfl
          rw [Nat.add_zero] at c0
          have HTK := Lib.hid (take_flatMap extB hx)
          have hxb := h6.out x (List.mem_of_getElem? hx)
          have hxl := extB_len hxb
          have hl2 := HEX.out k
          clear hcell hx
          have hne : w1.heap.size < wr.heap.size := by rcases hbl.out with h | h <;> exact h.lt
          obtain ⟨V, hV, hbV, hzV, hBk, b0, b1, b2⟩ := xbox2 wr x
          have KB0 : Hid (V.drew.heap[wr.heap.size]? = some (.cells #[.int .i64 x.ses, .int .i64 x.off, .int .i64 x.len] 93 (0, 0))) := hBk
          clear hBk
          have hblV : Bld w1.heap.size w1.heap.size (Lib.byteCells (pre ++ (e.exts.take k).flatMap extB)) V.drew := (bld_below hbl.out hbV : Bld w1.heap.size w1.heap.size (Lib.byteCells (pre ++ (e.exts.take k).flatMap extB)) V)
          have hbV1 := hb.trans (hbV.mono hb.size)
          have gV : Ground V.drew := HG.out.below (hbw1.trans (hbV1.mono hbw1.size)).drew
          have hbV1 := hbV1.drew
          have hsl : (pre ++ (e.exts.take k).flatMap extB).length + (extB x).length ≤ 140737488355328 := by
            rw [List.length_append]
            omega
          have K1 := Lib.hid (fun X (h : Ground X) => number_any x.ses X h (by omega) (by omega))
          have K2 := Lib.hid (fun X (h : Ground X) => number_any x.off X h (by omega) (by omega))
          have K3 := Lib.hid (fun X (h : Ground X) => number_any x.len X h (by omega) (by omega))
          have hcat : ((⟨(numB x.ses).toArray⟩ : ByteArray) ++ ⟨(numB x.off).toArray⟩) ++ ⟨(numB x.len).toArray⟩ = ⟨(extB x).toArray⟩ := by
            rw [ba_app, ba_app]
            rfl
          have z1 : (⟨(numB x.ses).toArray⟩ : ByteArray).size ≤ 22 := num_len x.ses (by omega) (by omega)
          have z2 : (⟨(numB x.off).toArray⟩ : ByteArray).size ≤ 22 := num_len x.off (by omega) (by omega)
          have z3 : (⟨(numB x.len).toArray⟩ : ByteArray).size ≤ 22 := num_len x.len (by omega) (by omega)
          generalize (⟨(numB x.ses).toArray⟩ : ByteArray) = S1 at *
          generalize (⟨(numB x.off).toArray⟩ : ByteArray) = S2 at *
          generalize (⟨(numB x.len).toArray⟩ : ByteArray) = S3 at *
          have HCAT := Lib.hid hcat
          clear hcat
          have y2 : (S1 ++ S2).size ≤ 44 := by rw [ByteArray.size_append]; omega
          have add1 := string_add S1 S2 (by omega)
          have add2 := string_add (S1 ++ S2) S3 (by omega)
          go_upto_region 9 with (fail)
          try rw [hV]
          clear hV
          have hzV' : wr.heap.size < V.drew.heap.size := hzV
          go_region_held3 (fun w' => w'.cell? ⟨wr.heap.size, 0, none⟩ = some (.int .i64 x.ses) ∧ w'.cell? ⟨wr.heap.size, 1, none⟩ = some (.int .i64 x.off) ∧ w'.cell? ⟨wr.heap.size, 2, none⟩ = some (.int .i64 x.len)) (first | exact ⟨q40, q41, q42⟩ | exact ⟨q30, q31, q32⟩ | exact ⟨q20, q21, q22⟩ | exact ⟨q10, q11, q12⟩ | exact ⟨b0, b1, b2⟩ | go_keep) ((first | (go_at_call 44; refine (K1.out V.drew gV).mono ?_; rintro en v1 ⟨rfl, hv1⟩; have KB1 := Lib.hid ((hv1.block wr.heap.size hzV').trans KB0.out); have q10 := cell_on hv1 hzV' b0; have q11 := cell_on hv1 hzV' b1; have q12 := cell_on hv1 hzV' b2; have l1 := Nat.lt_of_lt_of_le hzV' hv1.size; have g11 := gV.below hv1; have e1 := bld_below hblV hv1; have zz1 := Nat.le_trans hbV1.size hv1.size) | (go_at_call 44; refine (K2.out v1 g11).mono ?_; rintro en v2 ⟨rfl, hv2⟩; have KB2 := Lib.hid ((hv2.block wr.heap.size l1).trans KB1.out); have q20 := cell_on hv2 l1 q10; have q21 := cell_on hv2 l1 q11; have q22 := cell_on hv2 l1 q12; have l2 := Nat.lt_of_lt_of_le l1 hv2.size; have g12 := g11.below hv2; have e2 := bld_below e1 hv2; have zz2 := Nat.le_trans zz1 hv2.size) | (go_at_call 44; refine (K3.out v2 g12).mono ?_; rintro en v3 ⟨rfl, hv3⟩; have KB3 := Lib.hid ((hv3.block wr.heap.size l2).trans KB2.out); have q30 := cell_on hv3 l2 q20; have q31 := cell_on hv3 l2 q21; have q32 := cell_on hv3 l2 q22; have l3 := Nat.lt_of_lt_of_le l2 hv3.size; have g13 := g12.below hv3; have e3 := bld_below e2 hv3; have zz3 := Nat.le_trans zz2 hv3.size) | (go_at_call 43; rw [HCAT.out]; refine (write_any w1.heap.size w1.heap.size (pre ++ (e.exts.take k).flatMap extB) (extB x) v3 e3 hsl zz3).mono ?_; rintro en v4 ⟨rfl, e4, hv4, hk4⟩; have kb4 := hk4 _ _ KB3.out (fun e => by injection e; omega) (fun _ _ e => by cases e); have q40 := tcell kb4 0 _ rfl; have q41 := tcell kb4 1 _ rfl; have q42 := tcell kb4 2 _ rfl)))
          have hbl2 := Lib.hid e4
          rw [List.append_assoc, ← HTK.out] at e4
          have E4 := Lib.hid e4
          clear e4 hbl2
          have hb20 := ((((hbV1.trans (hv1.mono hbV1.size)).trans (hv2.mono zz1)).trans (hv3.mono zz2)).trans hv4)
          go_wp2_with fail
          go_roundw
          case rel => exact ⟨k + 1, by omega, by go_num, E4, hb20⟩
          case measure => simp [intOf]; omega
        · obtain rfl : k = e.exts.length := by omega
          have hfin := hbl.out
          rw [List.take_length, ← HB.out] at hfin
          have HF := Lib.hid hfin
          clear hfin
          go_wp2_with fail
          refine (Tryz.Builder_String_any w1.heap.size w1.heap.size _ wr HF.out hb.size).mono ?_
          rintro en v3 ⟨rfl, hbv3⟩
          go_wp2_with fail
          go_ret2
          exact ⟨by rw [HEN.out]; rfl, hbw1.trans ((hb.trans hbv3).mono hbw1.size)⟩
  · have HE : Hid (encE e = (entErr e, [])) := by
      show _ = _
      exact if_pos herr
    have hhd : headE e = (entErr e, []) := if_pos herr
    rw [hhd] at HC
    have hne : (entErr e != 0) = true := bne_iff_ne.2 herr
    clear hhd
    generalize encE e = res at *
    generalize entErr e = z at *
    go_enter Tryz.func79, Tryz.ntmps79
    go_upto_region 1 with (fail)
    try rw [hW]
    clear hW
    go_wp2_with fail
    refine HC.out.mono ?_
    rintro en w1 ⟨rfl, hb1⟩
    go_wp2_with fail
    go_ret2
    exact ⟨by rw [HE.out]; rfl, hbW.trans (hb1.mono hbW.size)⟩
end Go.Proofs.YtbhmdcdhklgomaaGreatDoor
