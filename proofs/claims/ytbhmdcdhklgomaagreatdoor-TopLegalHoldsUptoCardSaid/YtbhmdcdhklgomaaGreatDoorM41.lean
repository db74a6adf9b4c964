/-
  directory.signed, directory.Digest. (Written by gen_dig.py.)
-/
import Derived.Test.YtbhmdcdhklgomaaGreatDoorM26
import Derived.Test.YtbhmdcdhklgomaaGreatDoorM40
namespace Go.Proofs.YtbhmdcdhklgomaaGreatDoor
open Go.RowKit Top

/-- A session that directory.Check lets pass. -/
structure SignOk (s : Ses) : Prop where
  ok : SesOk s
  num0 : 1 ≤ s.num
  num1 : s.num ≤ 255
  prev : s.prev = [] ∨ s.prev.length = 32
  stream : s.stream.length ≤ 14680064
  sign : s.sign.length ≤ 2000
  text : (sesText s).length ≤ 90000000
theorem bld_len (B b : Nat) (bs : List Value) (w : World) (h : Bld B b bs w) : Calls Tryz.prog 80 #[.pointer (some ⟨b, 0, none⟩)] w fun e w' => e = .returned (.int .i64 bs.length) ∧ w' = w := by
  exact Tryz.Builder_Len B b bs w h
set_option maxHeartbeats 2000000 in
set_option maxRecDepth 100000 in
theorem fields_any (v : Value) (s : Ses) (w : World) (hv : SesV w v s) (hok : SignOk s) :
    Calls Tryz.prog 78 #[v] w fun e w' => e = .returned (.int .i64 0) ∧ Below w.heap.size w w' := by
  obtain ⟨ea, ec, rfl, _⟩ := hv
  obtain ⟨W, hW, hbW, hzW, hblk, d0, d1, d2, d3, d4, d5⟩ := box6 w (.int .i64 s.num) (.int .i64 s.date) (.string ⟨s.prev.toArray⟩) (.slice ea s.entries.length ec) (.string ⟨s.stream.toArray⟩) (.string ⟨s.sign.toArray⟩) 39
  have k0 := hok.num0
  have k1 := hok.num1
  have k2 := hok.ok.date0
  have k3 := hok.ok.date1
  have hp := hok.prev
  have n0 : ¬ s.num < 1 := by omega
  have n1 : ¬ 255 < s.num := by omega
  have n2 : ¬ s.date < 0 := by omega
  have n3 : ¬ 1000000000 < s.date := by omega
  clear hok hblk hzW k0 k1 k2 k3
  rcases hp with hp | hp
  · have he : s.prev.isEmpty = true := by rw [hp]; rfl
    clear hp
    go_enter Tryz.func78, Tryz.ntmps78
    go_upto_region 1 with (fail)
    try rw [hW]
    clear hW
    go_wp2_with fail
    go_ret
    exact ⟨rfl, hbW⟩
  · have he : s.prev.isEmpty = false := by
      cases h : s.prev with
      | nil => rw [h] at hp; cases hp
      | cons y t => rfl
    have hq : ((s.prev.length : Nat) : Int) = 32 := by omega
    clear hp
    go_enter Tryz.func78, Tryz.ntmps78
    go_upto_region 1 with (fail)
    try rw [hW]
    clear hW
    go_wp2_with fail
    go_ret
    exact ⟨rfl, hbW⟩
set_option maxHeartbeats 4000000 in
set_option maxRecDepth 100000 in
theorem signed_any (v : Value) (s : Ses) (w : World) (hv : SesV w v s) (hg : Ground w) (hso : SignOk s) :
    Calls Tryz.prog 39 #[v] w fun e w' => e = .returned (.tuple #[.string ⟨(sesText s).toArray⟩, .int .i64 0]) ∧ Below w.heap.size w w' := by
  have hok := hso.ok
  have HFI := Lib.hid (fun X (hX : Below w.heap.size w X) => fields_any v s X (hv.below hX) hso)
  obtain ⟨ea, ec, rfl, hents⟩ := hv
  obtain ⟨U, hU, hbU, hzU, hblk, d0, d1, d2, d3, d4, d5⟩ := box6 w (.int .i64 s.num) (.int .i64 s.date) (.string ⟨s.prev.toArray⟩) (.slice ea s.entries.length ec) (.string ⟨s.stream.toArray⟩) (.string ⟨s.sign.toArray⟩) 39
  have HFI := Lib.hid (HFI.out U hbU)
  have HEN := Lib.hid hents
  have HG := Lib.hid hg
  have HOK := Lib.hid hok
  have hlU : w.heap.size < U.heap.size := by omega
  have n1 : ¬ (14680064 : Int) < (s.stream.length : Nat) := by have := hso.stream; omega
  have n2 : ¬ (400 : Int) < (s.entries.length : Nat) := by have := hok.entries; omega
  have n3 : ¬ (2000 : Int) < (s.sign.length : Nat) := by have := hso.sign; omega
  have n4 : ¬ (90000000 : Int) < ((sesText s).length : Nat) := by have := hso.text; omega
  have N4 := Lib.hid n4
  clear hents hg hblk hzU hok hso n4
  go_enter Tryz.func39, Tryz.ntmps39
  go_upto_region 1 with (fail)
  try rw [hU]
  clear hU
  go_wp2_with fail
  refine HFI.out.mono ?_
  rintro en W ⟨rfl, hbUW⟩
  have hbW := hbU.trans (hbUW.mono hbU.size)
  have hzW' := Nat.lt_of_lt_of_le hlU hbUW.size
  have d0 := cell_on hbUW hlU d0
  have d1 := cell_on hbUW hlU d1
  have d2 := cell_on hbUW hlU d2
  have d3 := cell_on hbUW hlU d3
  have d4 := cell_on hbUW hlU d4
  have d5 := cell_on hbUW hlU d5
  have D3 := Lib.hid d3
  have D5 := Lib.hid d5
  clear HFI hbUW hlU
  go_upto_region 6 with (fail)
  clear n1 n2
  go_upto_region 7 with (fail)
  have hbl := Lib.fresh_isBuilder 102 5 W
  have hb12 := (Below.refl W.heap.size W).alloc (Nat.le_refl _) (.cells #[.pointer none, .slice none 0 0] 102)
  have d0 := (hb12.cell (p := ⟨w.heap.size, 0, none⟩) hzW').trans d0
  have d1 := (hb12.cell (p := ⟨w.heap.size, 1, none⟩) hzW').trans d1
  have d2 := (hb12.cell (p := ⟨w.heap.size, 2, none⟩) hzW').trans d2
  have D4 := Lib.hid d4
  clear d3 d4 d5
  generalize W.alloc (.cells #[.pointer none, .slice none 0 0] 102) = W2 at *
  have hlw2 : w.heap.size < W2.heap.size := Nat.lt_of_lt_of_le hzW' hb12.size
  have hbl2 : Bld W.heap.size W.heap.size (Lib.byteCells []) W2.drew := hbl
  have hb2 := hbW.trans (hb12.mono hbW.size)
  have g2 : Ground W2.drew := HG.out.below hb2.drew
  have hb12 := hb12.drew
  clear hbl
  go_cut [] (fun wx => Hid (Bld W.heap.size W.heap.size (Lib.byteCells (sesHead s)) wx) ∧ Below W.heap.size W wx)
  case first =>
      have hcat : ((⟨(numB s.num).toArray⟩ : ByteArray) ++ ⟨(numB s.date).toArray⟩) ++ ⟨(strB s.prev).toArray⟩ = ⟨(sesHead s).toArray⟩ := by
        rw [ba_app, ba_app]
        rfl
      have hok := HOK.out
      have k0 := hok.num0
      have k1 := hok.num1
      have k2 := hok.date0
      have k3 := hok.date1
      have k4 := hok.prev
      have hsl : ([] : Bs).length + (sesHead s).length ≤ 140737488355328 := by
        have := sesHead_len hok
        rw [List.length_nil]
        omega
      have K1 := Lib.hid (fun X (h : Ground X) => number_any s.num X h (by omega) (by omega))
      have K2 := Lib.hid (fun X (h : Ground X) => number_any s.date X h (by omega) (by omega))
      have K3 := Lib.hid (fun X (h : Ground X) => string_any s.prev X h (by omega))
      have z1 : (⟨(numB s.num).toArray⟩ : ByteArray).size ≤ 22 := num_len s.num (by omega) (by omega)
      have z2 : (⟨(numB s.date).toArray⟩ : ByteArray).size ≤ 22 := num_len s.date (by omega) (by omega)
      have z3 : (⟨(strB s.prev).toArray⟩ : ByteArray).size ≤ 100 := Nat.le_trans (str_len s.prev (by omega)) (by omega)
      clear hok
      generalize (⟨(numB s.num).toArray⟩ : ByteArray) = S1 at *
      generalize (⟨(numB s.date).toArray⟩ : ByteArray) = S2 at *
      generalize (⟨(strB s.prev).toArray⟩ : ByteArray) = S3 at *
      have HCAT := Lib.hid hcat
      clear hcat
      generalize s.num = n0 at *
      generalize s.date = n1 at *
      generalize s.prev = n2 at *
      have y2 : (S1 ++ S2).size ≤ 44 := by rw [ByteArray.size_append]; omega
      have add1 := string_add S1 S2 (by omega)
      have add2 := string_add (S1 ++ S2) S3 (by omega)
      clear k0 k1 k2 k3 k4 z1 z2 z3 y2 hb2 HG HOK HEN D3 D4 D5 hbW
      go_region_held3 (fun w' => w'.cell? ⟨w.heap.size, 0, none⟩ = some (.int .i64 n0) ∧ w'.cell? ⟨w.heap.size, 1, none⟩ = some (.int .i64 n1) ∧ w'.cell? ⟨w.heap.size, 2, none⟩ = some (.string ⟨n2.toArray⟩)) (first | exact ⟨p40, p41, p42⟩ | exact ⟨p30, p31, p32⟩ | exact ⟨p20, p21, p22⟩ | exact ⟨p10, p11, p12⟩ | exact ⟨d0, d1, d2⟩ | go_keep) ((first | (go_at_call 44; refine (K1.out W2.drew g2).mono ?_; rintro en v1 ⟨rfl, hv1⟩; have p10 := cell_on hv1 hlw2 d0; have p11 := cell_on hv1 hlw2 d1; have p12 := cell_on hv1 hlw2 d2; have l1 := Nat.lt_of_lt_of_le hlw2 hv1.size; have g11 := g2.below hv1; have b1 := bld_below hbl2 hv1; have zz1 := Nat.le_trans hb12.size hv1.size) | (go_at_call 44; refine (K2.out v1 g11).mono ?_; rintro en v2 ⟨rfl, hv2⟩; have p20 := cell_on hv2 l1 p10; have p21 := cell_on hv2 l1 p11; have p22 := cell_on hv2 l1 p12; have l2 := Nat.lt_of_lt_of_le l1 hv2.size; have g12 := g11.below hv2; have b2 := bld_below b1 hv2; have zz2 := Nat.le_trans zz1 hv2.size) | (go_at_call 40; refine (K3.out v2 g12).mono ?_; rintro en v3 ⟨rfl, hv3⟩; have p30 := cell_on hv3 l2 p20; have p31 := cell_on hv3 l2 p21; have p32 := cell_on hv3 l2 p22; have l3 := Nat.lt_of_lt_of_le l2 hv3.size; have g13 := g12.below hv3; have b3 := bld_below b2 hv3; have zz3 := Nat.le_trans zz2 hv3.size) | (go_at_call 43; rw [HCAT.out]; refine (write_any W.heap.size W.heap.size ([]) (sesHead s) v3 b3 hsl zz3).mono ?_; rintro en v4 ⟨rfl, b4, hv4, _⟩; have p40 := (hv4.cell (p := ⟨w.heap.size, 0, none⟩) hzW').trans p30; have p41 := (hv4.cell (p := ⟨w.heap.size, 1, none⟩) hzW').trans p31; have p42 := (hv4.cell (p := ⟨w.heap.size, 2, none⟩) hzW').trans p32)))
      all_goals
        go_wp2_with fail
        go_meet
        exact ⟨Lib.hid b4, (((hb12.trans (hv1.mono hb12.size)).trans (hv2.mono zz1)).trans (hv3.mono zz2)).trans hv4⟩
  case rest =>
    obtain ⟨hbl5, hb15⟩ := hcut
    have hbx5 := hbW.trans (hb15.mono hbW.size)
    have d3 := (hb15.cell (p := ⟨w.heap.size, 3, none⟩) hzW').trans D3.out
    have d4 := (hb15.cell (p := ⟨w.heap.size, 4, none⟩) hzW').trans D4.out
    have hlw5 : w.heap.size < wc.heap.size := Nat.lt_of_lt_of_le hzW' hb15.size
    have g5 : Ground wc.drew := HG.out.below hbx5.drew
    have hblw : Bld W.heap.size W.heap.size (Lib.byteCells (sesHead s)) wc.drew := hbl5.out
    have hb15 := hb15.drew
    clear hbl5 hb12 hbl2 g2 hb2 hlw2
    go_upto_region 8 with (fail)
    go_cut [] (fun wx => Hid (Bld W.heap.size W.heap.size (Lib.byteCells (sesHead s ++ sesMid s)) wx) ∧ Below W.heap.size W wx)
    case first =>
      have hcat : ((⟨(numB (s.stream.length : Nat)).toArray⟩ : ByteArray) ++ ⟨(strB (Blk.sum s.stream)).toArray⟩) ++ ⟨(numB (s.entries.length : Nat)).toArray⟩ = ⟨(sesMid s).toArray⟩ := by
        rw [ba_app, ba_app]
        rfl
      have hok := HOK.out
      have k0 := hok.stream
      have k1 := hok.entries
      have hdl := sum_len s.stream
      have hsl : (sesHead s).length + (sesMid s).length ≤ 140737488355328 := by
        have := sesHead_len hok
        have := sesMid_len hok
        omega
      have K1 := Lib.hid (fun X (h : Ground X) => number_any (s.stream.length : Nat) X h (by omega) (by omega))
      have K3 := Lib.hid (fun X (h : Ground X) => string_any (Blk.sum s.stream) X h (by omega))
      have K4 := Lib.hid (fun X (h : Ground X) => number_any (s.entries.length : Nat) X h (by omega) (by omega))
      have z1 : (⟨(numB (s.stream.length : Nat)).toArray⟩ : ByteArray).size ≤ 22 := num_len (s.stream.length : Nat) (by omega) (by omega)
      have z2 : (⟨(strB (Blk.sum s.stream)).toArray⟩ : ByteArray).size ≤ 100 := Nat.le_trans (str_len (Blk.sum s.stream) (by omega)) (by omega)
      have z3 : (⟨(numB (s.entries.length : Nat)).toArray⟩ : ByteArray).size ≤ 22 := num_len (s.entries.length : Nat) (by omega) (by omega)
      have hstl : s.stream.length ≤ 1000000000 := hok.stream
      clear hok
      generalize (⟨(numB (s.stream.length : Nat)).toArray⟩ : ByteArray) = S1 at *
      generalize (⟨(strB (Blk.sum s.stream)).toArray⟩ : ByteArray) = S2 at *
      generalize (⟨(numB (s.entries.length : Nat)).toArray⟩ : ByteArray) = S3 at *
      have HCAT := Lib.hid hcat
      clear hcat
      have y2 : (S1 ++ S2).size ≤ 200 := by rw [ByteArray.size_append]; omega
      have add1 := string_add S1 S2 (by omega)
      have add2 := string_add (S1 ++ S2) S3 (by omega)
      have gA : Ground (wc.drew.alloc (.cells #[.string ⟨s.stream.toArray⟩] 9)) := g5.below ((Below.refl _ wc.drew).alloc (Nat.le_refl _) _)
      have ra3 := ((Below.refl _ wc.drew).alloc (Nat.le_refl _) (.cells #[.string ⟨s.stream.toArray⟩] 9)).cell (p := ⟨w.heap.size, 3, none⟩) hlw5 |>.trans d3
      have ra4 := ((Below.refl _ wc.drew).alloc (Nat.le_refl _) (.cells #[.string ⟨s.stream.toArray⟩] 9)).cell (p := ⟨w.heap.size, 4, none⟩) hlw5 |>.trans d4
      go_region_held3 (fun w' => w'.cell? ⟨w.heap.size, 3, none⟩ = some (.slice ea s.entries.length ec) ∧ w'.cell? ⟨w.heap.size, 4, none⟩ = some (.string ⟨s.stream.toArray⟩)) (first | exact ⟨ra3, ra4⟩ | exact ⟨rb3, rb4⟩ | exact ⟨p53, p54⟩ | exact ⟨p43, p44⟩ | exact ⟨p33, p34⟩ | exact ⟨p23, p24⟩ | exact ⟨p13, p14⟩ | exact ⟨d3, d4⟩ | go_keep) ((first | (go_at_call 44; refine (K1.out wc.drew g5).mono ?_; rintro en v1 ⟨rfl, hv1⟩; have p13 := cell_on hv1 hlw5 d3; have p14 := cell_on hv1 hlw5 d4; have l1 := Nat.lt_of_lt_of_le hlw5 hv1.size; have g11 := g5.below hv1; have b1 := bld_below hblw hv1; have zz1 := Nat.le_trans hb15.size hv1.size; have rb3 := ((Below.refl _ v1).alloc (Nat.le_refl _) (.cells #[.string ⟨s.stream.toArray⟩] 9)).cell (p := ⟨w.heap.size, 3, none⟩) l1 |>.trans p13; have rb4 := ((Below.refl _ v1).alloc (Nat.le_refl _) (.cells #[.string ⟨s.stream.toArray⟩] 9)).cell (p := ⟨w.heap.size, 4, none⟩) l1 |>.trans p14) | (go_at_call 44; refine (K1.out (wc.drew.alloc (.cells #[.string ⟨s.stream.toArray⟩] 9)) gA).mono ?_; rintro en v1 ⟨rfl, hv1⟩; have csl := (hv1.cell (p := ⟨wc.drew.heap.size, 0, none⟩) (by simp)).trans (tcell (heap_alloc_new wc.drew (.cells #[.string ⟨s.stream.toArray⟩] 9)) 0 _ rfl); replace hv1 : Below wc.drew.heap.size wc.drew v1 := ((Below.refl _ wc.drew).alloc (Nat.le_refl _) _).trans (hv1.mono (by simp)); have p13 := cell_on hv1 hlw5 d3; have p14 := cell_on hv1 hlw5 d4; have l1 := Nat.lt_of_lt_of_le hlw5 hv1.size; have g11 := g5.below hv1; have b1 := bld_below hblw hv1; have zz1 := Nat.le_trans hb15.size hv1.size) | (go_at_call 65; (first | refine (sum_any s.stream wc.drew.heap.size 0 v1 hstl csl).mono ?_ | refine (sum_new s.stream v1 hstl).mono ?_); rintro en v2 ⟨rfl, hv2⟩; have p23 := cell_on hv2 l1 p13; have p24 := cell_on hv2 l1 p14; have l2 := Nat.lt_of_lt_of_le l1 hv2.size; have g12 := g11.below hv2; have b2 := bld_below b1 hv2; have zz2 := Nat.le_trans zz1 hv2.size) | (go_at_call 40; refine (K3.out v2 g12).mono ?_; rintro en v3 ⟨rfl, hv3⟩; have p33 := cell_on hv3 l2 p23; have p34 := cell_on hv3 l2 p24; have l3 := Nat.lt_of_lt_of_le l2 hv3.size; have g13 := g12.below hv3; have b3 := bld_below b2 hv3; have zz3 := Nat.le_trans zz2 hv3.size) | (go_at_call 44; refine (K4.out v3 g13).mono ?_; rintro en v4 ⟨rfl, hv4⟩; have p43 := cell_on hv4 l3 p33; have p44 := cell_on hv4 l3 p34; have l4 := Nat.lt_of_lt_of_le l3 hv4.size; have g14 := g13.below hv4; have b4 := bld_below b3 hv4; have zz4 := Nat.le_trans zz3 hv4.size) | (go_at_call 43; rw [HCAT.out]; refine (write_any W.heap.size W.heap.size (sesHead s) (sesMid s) v4 b4 hsl zz4).mono ?_; rintro en v5 ⟨rfl, b5, hv5, _⟩; have p53 := (hv5.cell (p := ⟨w.heap.size, 3, none⟩) hzW').trans p43; have p54 := (hv5.cell (p := ⟨w.heap.size, 4, none⟩) hzW').trans p44)))
      all_goals
        go_wp2_with fail
        go_meet
        exact ⟨Lib.hid b5, ((((hb15.trans (hv1.mono hb15.size)).trans (hv2.mono zz1)).trans (hv3.mono zz2)).trans (hv4.mono zz3)).trans hv5⟩
    case rest =>
      obtain ⟨hbl6, hb16⟩ := hcut
      have hbx6 := hbW.trans (hb16.mono hbW.size)
      have d3 := (hb16.cell (p := ⟨w.heap.size, 3, none⟩) hzW').trans D3.out
      have hpre : (sesHead s ++ sesMid s).length ≤ 400 := by
        have := sesHead_len HOK.out
        have := sesMid_len HOK.out
        rw [List.length_append]
        omega
      have HTX := Lib.hid (sesText_eq s)
      have HLN := Lib.hid (sesText_len HOK.out)
      generalize hP : sesHead s ++ sesMid s = pre at *
      have hEX : ∀ k, (encS (s.entries.take k)).length ≤ 200 * 4400000 := fun k => by
        have h1 := encS_len (l := s.entries.take k) (fun e he => HOK.out.each e (List.mem_of_mem_take he))
        have h2 := HOK.out.entries
        rw [List.length_take] at h1
        exact Nat.le_trans h1 (Nat.mul_le_mul_right _ (by omega))
      have HEX := Lib.hid hEX
      clear hEX hP
      go_wp2_with fail
      go_loopw [56] (fun i wr => ∃ k : Nat, k ≤ s.entries.length ∧ i = .int .i64 k ∧ Hid (Bld W.heap.size W.heap.size (Lib.byteCells (pre ++ encS (s.entries.take k))) wr) ∧ Below W.heap.size W wr) (fun i _ => s.entries.length - (intOf i).toNat)
      case atStart => exact ⟨0, Nat.zero_le _, rfl, by simpa [encS] using hbl6, hb16⟩
      case round =>
        obtain ⟨k, hk, rfl, hbl, hb⟩ := hrel
        by_cases hlt : k < s.entries.length
        · obtain ⟨x, hx⟩ : ∃ x, s.entries[k]? = some x := ⟨_, List.getElem?_eq_getElem hlt⟩
          have hbw := hbW.trans (hb.mono hbW.size)
          have hent := HOK.out.entries
          have hEr := HEN.out.below hbw
          obtain ⟨bk, o, xa, xac, xe, xec, hoo, hfa, hfe, c0, c1, c2, c3, c4, c5, c6⟩ := hEr.get hx
          subst hoo
          have hxe := HOK.out.each x (List.mem_of_getElem? hx)
          have HTK := Lib.hid (take_flatMap (fun e => (encE e).2) hx)
          have hel := encE_ok hxe
          have hxl := encB_len (valid hxe)
          have hl2 := HEX.out k
          have hvx := valid hxe
          have hvp := hvx.path
          have hvt := hvx.target
          obtain ⟨V, hV, hbV, hzV, e0, e1, e2, e3, e4, e5, e6⟩ := ebox wr x (.slice xa x.attrs.length xac) (.slice xe x.exts.length xec)
          have hbV1 := hb.trans (hbV.mono hb.size)
          have gV : Ground V := HG.out.below (hbW.trans (hbV1.mono hbW.size))
          have hevV : EntV V (.agg #[.int .i64 x.kind, .string ⟨x.path.toArray⟩, .slice xa x.attrs.length xac, .string ⟨x.target.toArray⟩, .int .i64 x.size, .string ⟨x.digest.toArray⟩, .slice xe x.exts.length xec]) x := ⟨_, _, _, _, rfl, hfa.below hbV, hfe.below hbV⟩
          have HENC := Lib.hid (encode_any _ x V hevV gV (by omega) (by omega))
          have hblV : Bld W.heap.size W.heap.size (Lib.byteCells (pre ++ encS (s.entries.take k))) V := bld_below hbl.out hbV
          have HBLV := Lib.hid hblV
          have hsl : (pre ++ encS (s.entries.take k)).length + (encB x).length ≤ 140737488355328 := by
            rw [List.length_append]
            omega
          rw [hel] at HENC
          have hapx : (pre ++ encS (s.entries.take k)) ++ encB x = pre ++ encS (s.entries.take (k + 1)) := by
            rw [List.append_assoc]
            unfold encS
            rw [HTK.out, hel]
          have HAP := Lib.hid hapx
          clear hx hEr hfa hfe hevV hblV hxe hvx hapx hel HTK
          generalize encB x = ex at *
          go_upto_region 12 with (fail)
          try rw [hV]
          clear hV
          go_wp2_with fail
          refine HENC.out.mono ?_
          rintro en w7 ⟨rfl, hb7⟩
          have hbV7 := hbV1.trans (hb7.mono hbV1.size)
          have hbl7 := bld_below HBLV.out hb7
          go_wp2_with fail
          refine (write_any W.heap.size W.heap.size (pre ++ encS (s.entries.take k)) ex w7 hbl7 hsl hbV7.size).mono ?_
          rintro en w8 ⟨rfl, hbl8, hb8, _⟩
          rw [HAP.out] at hbl8
          have HB8 := Lib.hid hbl8
          have hb78 := hbV7.trans hb8
          clear hbl7 hbl8
          go_wp2_with fail
          go_roundw
          case rel => exact ⟨k + 1, by omega, by go_num, HB8, hb78⟩
          case measure => simp [intOf]; omega
        · obtain rfl : k = s.entries.length := by omega
          have hfin := hbl.out
          rw [List.take_length, ← HTX.out] at hfin
          have HF := Lib.hid hfin
          have hbw := hbW.trans (hb.mono hbW.size)
          have d5 := (hb.cell (p := ⟨w.heap.size, 5, none⟩) hzW').trans D5.out
          have HLE := Lib.hid (bld_len W.heap.size W.heap.size _ wr hfin)
          rw [Lib.byteCells_length] at HLE
          clear hfin
          go_wp2_with fail
          refine HLE.out.mono ?_
          rintro en w9 ⟨rfl, rfl⟩
          have n4 := N4.out
          go_wp2_with fail
          refine (Tryz.Builder_String_any W.heap.size W.heap.size _ _ HF.out hb.size).mono ?_
          rintro en w9 ⟨rfl, hb9⟩
          have hb19 := hb.trans hb9
          go_wp2_with fail
          go_ret2
          exact ⟨rfl, hbW.trans (hb19.mono hbW.size)⟩
set_option maxHeartbeats 2000000 in
set_option maxRecDepth 100000 in
theorem ddigest_any (v : Value) (s : Ses) (w : World) (hv : SesV w v s) (hg : Ground w) (hso : SignOk s) :
    Calls Tryz.prog 36 #[v] w fun e w' => e = .returned (.tuple #[.string ⟨(digestB s).toArray⟩, .int .i64 0]) ∧ Below w.heap.size w w' := by
  have HFI := Lib.hid (fun X (hX : Below w.heap.size w X) => signed_any v s X (hv.below hX) (hg.below hX) hso)
  have htx := hso.text
  obtain ⟨ea, ec, rfl, _⟩ := hv
  obtain ⟨U, hU, hbU, hzU, hblk, d0, d1, d2, d3, d4, d5⟩ := box6 w (.int .i64 s.num) (.int .i64 s.date) (.string ⟨s.prev.toArray⟩) (.slice ea s.entries.length ec) (.string ⟨s.stream.toArray⟩) (.string ⟨s.sign.toArray⟩) 39
  have HFI := Lib.hid (HFI.out U hbU)
  have HDG : Hid (digestB s = Blk.sum (sesText s)) := rfl
  clear hblk hzU hso hg
  go_enter Tryz.func36, Tryz.ntmps36
  go_upto_region 1 with (fail)
  try rw [hU]
  clear hU
  go_wp2_with fail
  refine HFI.out.mono ?_
  rintro en w1 ⟨rfl, hb1⟩
  go_wp2_with fail
  refine (sum_new (sesText s) w1 (by omega)).mono ?_
  rintro en w2 ⟨rfl, hb2⟩
  have hb12 := hb1.trans (hb2.mono hb1.size)
  go_wp2_with fail
  go_ret2
  rw [HDG.out]
  exact ⟨rfl, hbU.trans (hb12.mono hbU.size)⟩
end Go.Proofs.YtbhmdcdhklgomaaGreatDoor

/-
  export.Tree where every file is whole.
-/
namespace Go.Proofs.YtbhmdcdhklgomaaGreatDoor
open Go.RowKit Top

def contB (l : List Ses) (x : Ent) : Bs := if x.kind = 1 then (getB (l.map (·.stream)) x.exts).1 else []
structure WholeE (l : List Ses) (x : Ent) : Prop where
  ok : entErr x = 0
  get : x.kind = 1 → (getB (l.map (·.stream)) x.exts).2 = 0
  size : x.kind = 1 → ((getB (l.map (·.stream)) x.exts).1.length : Int) = x.size
  dig : x.kind = 1 → Blk.sum (getB (l.map (·.stream)) x.exts).1 = x.digest
def expB (l : List Ses) (x : Ent) : Bs := strs [headB x, contB l x]
def expT (l : List Ses) (t : List Ent) : Bs := num (t.length : Nat) ++ t.flatMap (expB l)
theorem contB_len (l : List Ses) (x : Ent) : (contB l x).length ≤ 65536 := by
  unfold contB
  split
  · exact getB_len _ _
  · exact Nat.zero_le _
theorem expB_len (l : List Ses) {x : Ent} (h : entErr x = 0) : (expB l x).length ≤ 200000 := by
  have h1 := headB_len (valid h)
  have h2 := contB_len l x
  exact Nat.le_trans (strs_len [headB x, contB l x] 65536 (fun y hy => by
    simp only [List.mem_cons, List.not_mem_nil, or_false] at hy
    rcases hy with rfl | rfl <;> omega) (by decide)) (by show 2 * (65536 + 23) ≤ 200000; decide)
theorem asOf_le (l : List Ses) (d : Int) : asOf l d ≤ l.length := by
  unfold asOf
  cases h : l.findIdx? fun s => decide (d < s.date) with
  | none => exact Nat.le_refl _
  | some i =>
    obtain ⟨h1, _⟩ := List.findIdx?_eq_some_iff_getElem.1 h
    exact Nat.le_of_lt h1
set_option maxHeartbeats 4000000 in
set_option maxRecDepth 100000 in
theorem exptree_ok (sa : Option Addr) (sc : Nat) (l : List Ses) (d : Int) (w : World) (hs : Sess w (.slice sa l.length sc) l) (hg : Ground w) (hok : HistOk l) (hst : ∀ s ∈ l, s.stream.length ≤ 140737488355328) (hl : l.length ≤ 65536) (hT : ∀ x ∈ (afterS (l.take (asOf l d))).tree, WholeE l x) (hTl : (afterS (l.take (asOf l d))).tree.length ≤ 5000) :
    Calls Tryz.prog 16 #[.slice sa l.length sc, .int .i64 d] w fun en w' => en = .returned (.tuple #[.string ⟨(expT l (afterS (l.take (asOf l d))).tree).toArray⟩, .int .i64 0]) ∧ Below w.heap.size w w' := by
  have hao := asOf_le l d
  have HA := Lib.hid (asof_any sa sc l d w hs)
  have HTR := Lib.hid (fun X (hX : Below w.heap.size w X) => tree_any sa sc l (asOf l d : Nat) X (hs.below hX) (hg.below hX) hok)
  have hte : treeE l (asOf l d : Nat) = ((afterS (l.take (asOf l d))).tree, 0) := by
    unfold treeE
    rw [if_neg (by omega), Int.toNat_natCast]
  rw [hte] at HTR
  have HS := Lib.hid hs
  have HG := Lib.hid hg
  have HT := Lib.hid hT
  have HST := Lib.hid hst
  clear hs hg hT hte hst hok
  generalize hTT : (afterS (l.take (asOf l d))).tree = T at *
  clear hTT
  go_enter Tryz.func16, Tryz.ntmps16
  go_wp2_with fail
  refine HA.out.mono ?_
  rintro en w0 ⟨rfl, hb0⟩
  have HTR := Lib.hid (HTR.out w0 hb0)
  go_wp2_with fail
  refine HTR.out.mono ?_
  rintro en w1 ⟨tv, rfl, htv, hb1⟩
  obtain ⟨ta, tc, hv, htc1, htc2⟩ := htv.form
  subst hv
  have hbw1 := hb0.trans (hb1.mono hb0.size)
  have HTV := Lib.hid htv
  clear htv HTR HA
  go_upto_region 5 with (fail)
  have hbl := Lib.fresh_isBuilder 102 5 w1
  have hb12 := (Below.refl w1.heap.size w1).alloc (Nat.le_refl _) (.cells #[.pointer none, .slice none 0 0] 102)
  generalize w1.alloc (.cells #[.pointer none, .slice none 0 0] 102) = W2 at *
  have hbl2 : Bld w1.heap.size w1.heap.size (Lib.byteCells []) W2 := hbl
  have hb2 := hbw1.trans (hb12.mono hbw1.size)
  have K1 := Lib.hid (number_any (T.length : Nat) W2 (HG.out.below hb2) (by omega) (by omega))
  have hnl := num_len (T.length : Nat) (by omega) (by omega)
  have HNUM : Hid (numB (T.length : Nat) = num (T.length : Nat)) := rfl
  clear hbl
  go_wp2_with fail
  refine K1.out.mono ?_
  rintro en w3 ⟨rfl, hb3⟩
  have hbl3 := bld_below hbl2 hb3
  have hb13 := hb12.trans (hb3.mono hb12.size)
  rw [HNUM.out]
  go_wp2_with fail
  refine (write_any w1.heap.size w1.heap.size [] (num (T.length : Nat)) w3 hbl3 (by rw [List.length_nil]; omega) hb13.size).mono ?_
  rintro en w4 ⟨rfl, hbl4, hb4, _⟩
  have hb14 := hb13.trans hb4
  rw [List.nil_append] at hbl4
  have HBL4 := Lib.hid hbl4
  generalize hNT : num (T.length : Nat) = pre at *
  have HEX : Hid (∀ k, ((T.take k).flatMap (expB l)).length ≤ 5000 * 200000) := Lib.hid (fun k => by
    have h1 := flatMap_len (expB l) 200000 (T.take k) (fun x hx => expB_len l (HT.out x (List.mem_of_mem_take hx)).ok)
    rw [List.length_take] at h1
    exact Nat.le_trans h1 (Nat.mul_le_mul_right _ (by omega)))
  have HNT : Hid (expT l T = pre ++ T.flatMap (expB l)) := by
    show _ = _
    unfold expT
    rw [hNT]
  clear hbl2 hbl3 hbl4 hNT K1
  go_wp2_with fail
  go_loopw [33] (fun i wr => ∃ k : Nat, k ≤ T.length ∧ i = .int .i64 k ∧ Hid (Bld w1.heap.size w1.heap.size (Lib.byteCells (pre ++ (T.take k).flatMap (expB l))) wr) ∧ Below w1.heap.size w1 wr) (fun i _ => T.length - (intOf i).toNat)
  case atStart => exact ⟨0, Nat.zero_le _, rfl, by show Bld _ _ _ _; simpa using HBL4.out, hb14⟩
  case round =>
    obtain ⟨k, hk, rfl, hbl, hb⟩ := hrel
    have hbr := hbw1.trans (hb.mono hbw1.size)
    by_cases hlt : k < T.length
    · obtain ⟨x, hx⟩ : ∃ x, T[k]? = some x := ⟨_, List.getElem?_eq_getElem hlt⟩
      obtain ⟨bk, o, xa, xac, xe, xec, hoo, hfa, hfe, c0, c1, c2, c3, c4, c5, c6⟩ := (HTV.out.below hb).get hx
      subst hoo
      have hwh := HT.out x (List.mem_of_getElem? hx)
      have HTK := Lib.hid (take_flatMap (expB l) hx)
      have hvx := valid hwh.ok
      have hvp := hvx.path
      have hvt := hvx.target
      have hl2 := HEX.out k
      have hxl := expB_len l hwh.ok
      have hcl := contB_len l x
      have hhl := headB_len hvx
      obtain ⟨V, hV, hbV, hzV, e0, e1, e2, e3, e4, e5, e6⟩ := ebox wr x (.slice xa x.attrs.length xac) (.slice xe x.exts.length xec)
      have hbV1 := hb.trans (hbV.mono hb.size)
      have hbVw := hbw1.trans (hbV1.mono hbw1.size)
      have hevV : EntV V (.agg #[.int .i64 x.kind, .string ⟨x.path.toArray⟩, .slice xa x.attrs.length xac, .string ⟨x.target.toArray⟩, .int .i64 x.size, .string ⟨x.digest.toArray⟩, .slice xe x.exts.length xec]) x := ⟨_, _, _, _, rfl, hfa.below hbV, hfe.below hbV⟩
      have hzV' : wr.heap.size < V.heap.size := by omega
      have HBLV := Lib.hid (bld_below hbl.out hbV)
      have hhd : headE x = (0, headB x) := if_neg (by simpa using hwh.ok)
      have HHD := Lib.hid (fun X (hX : Below V.heap.size V X) => head_any _ x X (hevV.below hX) (HG.out.below (hbVw.trans (hX.mono hbVw.size))) (by omega) (by omega))
      rw [hhd] at HHD
      have HE0 := Lib.hid (And.intro e0 (And.intro e1 (And.intro e2 (And.intro e3 (And.intro e4 (And.intro e5 e6))))))
      have hxeq : expB l x = strs [headB x, contB l x] := rfl
      have HXE := Lib.hid hxeq
      have HEV := Lib.hid hevV
      clear hzV hx hfa hfe hhd hvx hxeq hevV hbl
      by_cases hk1 : x.kind = 1
      · have hcb : contB l x = (getB (l.map (·.stream)) x.exts).1 := if_pos hk1
        have HCO := Lib.hid (content_ok sa sc l _ x (contB l x) V (HS.out.below hbVw) HEV.out hwh.ok hk1 (by rw [hcb]; exact Prod.ext rfl (hwh.get hk1)) (by rw [hcb]; exact hwh.size hk1) (by rw [hcb]; exact hwh.dig hk1) HST.out hl)
        have hkq : (x.kind == 1) = true := beq_iff_eq.2 hk1
        clear hk1 hcb hwh
        go_upto_region 9 with (fail)
        try rw [hV]
        clear hV
        go_wp2_with fail
        refine HCO.out.mono ?_
        rintro en w5 ⟨rfl, hb5⟩
        have e0 := cell_on hb5 hzV' e0
        have e1 := cell_on hb5 hzV' e1
        have e2 := cell_on hb5 hzV' e2
        have e3 := cell_on hb5 hzV' e3
        have e4 := cell_on hb5 hzV' e4
        have e5 := cell_on hb5 hzV' e5
        have e6 := cell_on hb5 hzV' e6
        have hbX := hbV1.trans (hb5.mono hbV1.size)
        have HH := Lib.hid (HHD.out w5 hb5)
        go_wp2_with fail
        refine HH.out.mono ?_
        rintro en w6 ⟨rfl, hb6⟩
        have hb16 := hbX.trans (hb6.mono hbX.size)
        have hbl6 := bld_below (bld_below HBLV.out hb5) hb6
        have hal := (Below.refl _ w6).alloc (Nat.le_refl _) (.cells #[.string ⟨(headB x).toArray⟩, .string ⟨(contB l x).toArray⟩] 9)
        have hnw := heap_alloc_new w6 (.cells #[.string ⟨(headB x).toArray⟩, .string ⟨(contB l x).toArray⟩] 9)
        have hst : Strs (w6.alloc (.cells #[.string ⟨(headB x).toArray⟩, .string ⟨(contB l x).toArray⟩] 9)) (some ⟨w6.heap.size, 0, none⟩) 2 [headB x, contB l x] := ⟨rfl, fun j y hj => by
          match j, hj with
          | 0, hj =>
            injection hj with hj
            subst hj
            exact ⟨_, _, rfl, tcell hnw 0 _ rfl⟩
          | 1, hj =>
            injection hj with hj
            subst hj
            exact ⟨_, _, rfl, tcell hnw 1 _ rfl⟩
          | j + 2, hj => cases hj⟩
        have hb17 := hb16.trans (hal.mono hb16.size)
        have HSR := Lib.hid (strings_any (some ⟨w6.heap.size, 0, none⟩) 2 2 [headB x, contB l x] _ hst (HG.out.below (hbw1.trans (hb17.mono hbw1.size))) (by show 2 ≤ 1000; omega) (fun y hy => by
          simp only [List.mem_cons, List.not_mem_nil, or_false] at hy
          rcases hy with rfl | rfl <;> first | omega | simp))
        have hbl7 := bld_below hbl6 hal
        have HBL7 := Lib.hid hbl7
        clear hst hnw hbl6 hbl7 HH
        go_wp2_with fail
        refine HSR.out.mono ?_
        rintro en w7 ⟨rfl, hb7⟩
        have hb18 := hb17.trans (hb7.mono hb17.size)
        have hbl8 := bld_below HBL7.out hb7
        rw [← HXE.out]
        go_wp2_with fail
        refine (write_any w1.heap.size w1.heap.size (pre ++ (T.take k).flatMap (expB l)) (expB l x) w7 hbl8 (by rw [List.length_append]; omega) hb18.size).mono ?_
        rintro en w8 ⟨rfl, hbl9, hb8, _⟩
        rw [List.append_assoc, ← HTK.out] at hbl9
        have HB9 := Lib.hid hbl9
        have hb19 := hb18.trans hb8
        clear hbl8 hbl9
        go_wp2_with fail
        go_roundw
        case rel => exact ⟨k + 1, by omega, by go_num, HB9, hb19⟩
        case measure => simp [intOf]; omega
      · have hcb : contB l x = [] := if_neg hk1
        have hkq : (x.kind == 1) = false := beq_eq_false_iff_ne.2 hk1
        have hbV0 := Below.refl V.heap.size V
        rw [hcb] at HXE
        clear hk1 hwh
        go_upto_region 9 with (fail)
        try rw [hV]
        clear hV
        have hbX := hbV1.trans (hbV0.mono hbV1.size)
        have HH := Lib.hid (HHD.out V hbV0)
        go_wp2_with fail
        refine HH.out.mono ?_
        rintro en w6 ⟨rfl, hb6⟩
        have hb16 := hbX.trans (hb6.mono hbX.size)
        have hbl6 := bld_below (bld_below HBLV.out hbV0) hb6
        have hal := (Below.refl _ w6).alloc (Nat.le_refl _) (.cells #[.string ⟨(headB x).toArray⟩, .string ⟨#[]⟩] 9)
        have hnw := heap_alloc_new w6 (.cells #[.string ⟨(headB x).toArray⟩, .string ⟨#[]⟩] 9)
        have hst : Strs (w6.alloc (.cells #[.string ⟨(headB x).toArray⟩, .string ⟨#[]⟩] 9)) (some ⟨w6.heap.size, 0, none⟩) 2 [headB x, ([] : Bs)] := ⟨rfl, fun j y hj => by
          match j, hj with
          | 0, hj =>
            injection hj with hj
            subst hj
            exact ⟨_, _, rfl, tcell hnw 0 _ rfl⟩
          | 1, hj =>
            injection hj with hj
            subst hj
            exact ⟨_, _, rfl, tcell hnw 1 _ rfl⟩
          | j + 2, hj => cases hj⟩
        have hb17 := hb16.trans (hal.mono hb16.size)
        have HSR := Lib.hid (strings_any (some ⟨w6.heap.size, 0, none⟩) 2 2 [headB x, ([] : Bs)] _ hst (HG.out.below (hbw1.trans (hb17.mono hbw1.size))) (by show 2 ≤ 1000; omega) (fun y hy => by
          simp only [List.mem_cons, List.not_mem_nil, or_false] at hy
          rcases hy with rfl | rfl <;> first | omega | simp))
        have hbl7 := bld_below hbl6 hal
        have HBL7 := Lib.hid hbl7
        clear hst hnw hbl6 hbl7 HH
        go_wp2_with fail
        refine HSR.out.mono ?_
        rintro en w7 ⟨rfl, hb7⟩
        have hb18 := hb17.trans (hb7.mono hb17.size)
        have hbl8 := bld_below HBL7.out hb7
        rw [← HXE.out]
        go_wp2_with fail
        refine (write_any w1.heap.size w1.heap.size (pre ++ (T.take k).flatMap (expB l)) (expB l x) w7 hbl8 (by rw [List.length_append]; omega) hb18.size).mono ?_
        rintro en w8 ⟨rfl, hbl9, hb8, _⟩
        rw [List.append_assoc, ← HTK.out] at hbl9
        have HB9 := Lib.hid hbl9
        have hb19 := hb18.trans hb8
        clear hbl8 hbl9
        go_wp2_with fail
        go_roundw
        case rel => exact ⟨k + 1, by omega, by go_num, HB9, hb19⟩
        case measure => simp [intOf]; omega
    · obtain rfl : k = T.length := by omega
      have hfin := hbl.out
      rw [List.take_length, ← HNT.out] at hfin
      have HF := Lib.hid hfin
      clear hfin
      go_wp2_with fail
      refine (Tryz.Builder_String_any w1.heap.size w1.heap.size _ wr HF.out hb.size).mono ?_
      rintro en w9 ⟨rfl, hb9⟩
      have hb19 := hb.trans hb9
      go_wp2_with fail
      go_ret2
      exact ⟨rfl, hbw1.trans (hb19.mono hbw1.size)⟩
end Go.Proofs.YtbhmdcdhklgomaaGreatDoor
