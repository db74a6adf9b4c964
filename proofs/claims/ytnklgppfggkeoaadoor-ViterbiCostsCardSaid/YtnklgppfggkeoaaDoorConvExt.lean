/-
  The walk of convcode.Extract.
-/
import Derived.Test.YtnklgppfggkeoaaDoorConvEnc
import Derived.Test.YtnklgppfggkeoaaDoorConvDec
namespace Go.Proofs.YtnklgppfggkeoaaDoor
open Go.RowKit

theorem i64_xor_bits (u q : Bool) : bits .xor .i64 (Conv.bn u : Nat) (Conv.bn q : Nat) = (Conv.bn (u ^^ q) : Nat) := by
  cases u <;> cases q <;> decide +kernel
theorem st_low (p q : Bool) : bits .and .i64 (Conv.st p q : Nat) 1 = (Conv.bn q : Nat) := by
  rw [i64_and1]
  cases p <;> cases q <;> rfl
theorem bit_of (s : ByteArray) (h : Conv.ok s.data.toList = true) (k : Nat) (hk : k < s.size) : Conv.isBit s[k] = true := by
  unfold Conv.ok at h
  rw [List.all_eq_true] at h
  exact h _ (List.mem_of_getElem? (get_data s k hk))
theorem ok3_of (l : List UInt8) (h : Conv.ok l = true) : Cells.ok l = true := by
  unfold Conv.ok at h
  unfold Cells.ok
  rw [List.all_eq_true] at h ⊢
  intro c hc
  have := h c hc
  unfold Conv.isBit at this
  unfold Cells.isCell
  rw [this]
  rfl
theorem no_open (l : List UInt8) (h : Conv.ok l = true) : l.contains 63 = false := by
  cases hc : l.contains 63
  · rfl
  · unfold Conv.ok at h
    rw [List.all_eq_true] at h
    have := h 63 (List.contains_iff_mem.1 hc)
    cases this
theorem contains_dec (l : List UInt8) (c : UInt8) : decide (0 ≤ Lib.indexByte l c) = l.contains c := by
  rw [Bool.eq_iff_iff, decide_eq_true_eq, List.contains_iff_mem]
  constructor
  · intro h
    obtain ⟨k, hk⟩ : ∃ k : Nat, Lib.indexByte l c = k := ⟨(Lib.indexByte l c).toNat, by omega⟩
    exact List.mem_of_getElem? (Lib.indexByte_some hk).1
  · intro h
    obtain ⟨k, hk⟩ := List.getElem?_of_mem h
    have hge := Lib.indexByte_ge l c
    by_cases e : Lib.indexByte l c = -1
    · exact absurd hk (Lib.indexByte_none e k)
    · omega

set_option maxHeartbeats 2000000 in
theorem extract_any (s : ByteArray) (w : World) (hs : s.size ≤ 65536) (hok : Conv.ok s.data.toList = true) (hev : s.size % 2 = 0) (h4 : 4 ≤ s.size) :
    Calls Tryd.prog 22 #[.string s] w fun e w' => e = .returned (.tuple #[.string ⟨(Conv.extX s.data.toList).toArray⟩, .int .i64 (Conv.extE s.data.toList)]) ∧ Below w.heap.size w w' := by
  have hT := Any.strings_Trim_laid Tryd.lays160 (by kernel_rfl) s ⟨#[48, 49, 63]⟩ w (by omega) (by decide) (ascii_of_all (by decide))
  have HT := Lib.hid hT
  have HOK := Lib.hid hok
  have h8z : ((s.size : Int) % 2 != 0) = false := by
    rw [bne_eq_false_iff_eq]
    omega
  clear hT
  go_enter Tryd.func22, Tryd.ntmps22
  go_wp2_with fail
  refine HT.out.mono ?_
  rintro e w1 ⟨rfl, hb⟩
  have hE : (⟨(Lib.trimS s.data.toList (⟨#[48, 49, 63]⟩ : ByteArray).data.toList).toArray⟩ : ByteArray).toList.isEmpty = Cells.ok s.data.toList := trim_empty s
  generalize (⟨(Lib.trimS s.data.toList (⟨#[48, 49, 63]⟩ : ByteArray).data.toList).toArray⟩ : ByteArray) = X at *
  rw [ok3_of _ hok] at hE
  clear HT hok
  go_wp2_with fail
  refine (Tryd.strings_Contains_one s 63 w1).mono ?_
  rintro e w2 ⟨rfl, rfl⟩
  rw [contains_dec, no_open _ HOK.out]
  go_wp2_with fail
  go_loopg [5, 6] (s.size / 2) (fun g sv iv wr => ∃ (k : Nat) (l : List Bool) (p q : Bool), g = s.size / 2 - k ∧ k ≤ s.size / 2 ∧ sv = .int .i64 (Conv.st p q) ∧ iv = .int .i64 (2 * (k : Int)) ∧ l.length = k ∧
    Hid (Conv.dec false false s.data.toList = (Conv.dec p q (s.data.toList.drop (2 * k))).map (l ++ ·)) ∧ Bld w2.heap.size w2.heap.size (bytesL (l.map Conv.ch)) wr ∧ Below w2.heap.size w2 wr)
  case atStart => exact ⟨0, [], false, false, rfl, Nat.zero_le _, rfl, rfl, rfl, by simp [Hid], Lib.fresh_isBuilder _ _ w2, (Below.refl _ _).alloc (Nat.le_refl _) _⟩
  case round =>
    obtain ⟨k, l, p, q, hg, hk, rfl, rfl, hl, hd, hbl, hB⟩ := hrel
    have HG := Lib.hid hg
    clear hg
    by_cases hlt : k < s.size / 2
    · have hk1 : 2 * k + 1 < s.size := by omega
      have hk0 : 2 * k < s.size := by omega
      have hbit := Conv.toNat_bit (bit_of s HOK.out (2 * k + 1) hk1)
      have hlow := st_low p q
      have hx := i64_xor_bits (Conv.tb s[2 * k + 1]) q
      have hmod : (48 + ((Conv.bn (Conv.tb s[2 * k + 1]) : Nat) : Int) - 48) % 256 = (Conv.bn (Conv.tb s[2 * k + 1]) : Nat) := by cases Conv.tb s[2 * k + 1] <;> rfl
      have hstm : ((Conv.st p q : Nat) : Int) % 4 = (Conv.st p q : Nat) := by cases p <;> cases q <;> rfl
      have hbnm : ((Conv.bn (Conv.tb s[2 * k + 1] ^^ q) : Nat) : Int) % 2 = (Conv.bn (Conv.tb s[2 * k + 1] ^^ q) : Nat) := by cases Conv.tb s[2 * k + 1] <;> cases q <;> rfl
      have hnext := next_any (Conv.st p q : Nat) (Conv.bn (Conv.tb s[2 * k + 1] ^^ q) : Nat) p q (Conv.tb s[2 * k + 1] ^^ q) wr hstm hbnm
      have HN := Lib.hid hnext
      clear hnext hstm hbnm
      go_wp2_with fail
      rw [show 48 + ((Conv.bn (Conv.tb s[2 * k + 1]) : Nat) : Int) - 48 = (Conv.bn (Conv.tb s[2 * k + 1]) : Nat) by omega, hx]
      refine HN.out.mono ?_
      rintro e w3 ⟨rfl, rfl⟩
      have zE : (s.extract (2 * k) (2 * k + 2)).size = 2 := by rw [ByteArray.size_extract]; omega
      have dE : (s.extract (2 * k) (2 * k + 2)).data.toList = [s[2 * k], s[2 * k + 1]] := by
        rw [Lib.extract_data, show 2 * k + 2 - 2 * k = 2 by omega, List.drop_eq_getElem_cons (by rw [toList_length]; exact hk0), List.drop_eq_getElem_cons (by rw [toList_length]; exact hk1)]
        rfl
      clear HN hlow hx hmod hbit
      have hb2 : Conv.ch ((Conv.tb s[2 * k + 1] ^^ q) ^^ q) = s[2 * k + 1] := by
        rw [← Conv.ch_tb (bit_of s HOK.out (2 * k + 1) hk1), Conv.tb_ch]
        cases Conv.tb s[2 * k + 1] <;> cases q <;> rfl
      by_cases hm : s[2 * k] = Conv.ch (((Conv.tb s[2 * k + 1] ^^ q) ^^ p) ^^ q)
      · have hcmp : ((⟨#[Conv.ch (((Conv.tb s[2 * k + 1] ^^ q) ^^ p) ^^ q), Conv.ch ((Conv.tb s[2 * k + 1] ^^ q) ^^ q)]⟩ : ByteArray).toList == (s.extract (2 * k) (2 * k + 2)).toList) = true := by
          rw [Lib.toList_data, Lib.toList_data, dE, hb2, ← hm, beq_iff_eq]
        have hd' := Conv.dec_step s.data.toList k l p q _ _ (get_data s _ hk0) (get_data s _ hk1) hd.out hm
        have HD := Lib.hid hd'
        generalize (⟨#[Conv.ch (((Conv.tb s[2 * k + 1] ^^ q) ^^ p) ^^ q), Conv.ch ((Conv.tb s[2 * k + 1] ^^ q) ^^ q)]⟩ : ByteArray) = OUT at hcmp ⊢
        clear hd' hd hm hb2 dE
        generalize (Conv.tb s[2 * k + 1] ^^ q) = u at HD ⊢
        have hl1 : (bytesL (l.map Conv.ch)).length + (⟨#[Conv.ch u]⟩ : ByteArray).size ≤ 140737488355328 := by
          have e1 : (⟨#[Conv.ch u]⟩ : ByteArray).size = 1 := rfl
          rw [bytesL_length, List.length_map, e1]
          omega
        have hcell : Calls Tryd.prog 32 #[.int .i64 (Conv.bn u : Nat)] w3 fun e w' => e = .returned (.string ⟨#[Conv.ch u]⟩) ∧ w' = w3 := by
          cases u
          · exact cell0 _ _ (Or.inl rfl)
          · exact cell1 _ _ (Or.inl rfl)
        have HC := Lib.hid hcell
        clear hcell
        go_wp2_with fail
        refine HC.out.mono ?_
        rintro e w4 ⟨rfl, rfl⟩
        go_wp2_with fail
        refine (writeString_any w2.heap.size w2.heap.size _ _ w4 hbl hl1 hB.size).mono ?_
        rintro e w5 ⟨rfl, hbl5, hb5, _⟩
        have hsn : bytesL (l.map Conv.ch) ++ Lib.strCells ⟨#[Conv.ch u]⟩ = bytesL ((l ++ [u]).map Conv.ch) := by simp [bytesL, Lib.strCells]
        rw [hsn] at hbl5
        clear HC hsn
        go_wp2_with fail
        go_roundg (s.size / 2 - (k + 1))
        case measure => have := HG.out; omega
        case rel => exact ⟨k + 1, l ++ [u], u, p, rfl, by omega, rfl, by go_num, by simp [hl], HD, hbl5, hB.trans hb5⟩
      · have hcmp : ((⟨#[Conv.ch (((Conv.tb s[2 * k + 1] ^^ q) ^^ p) ^^ q), Conv.ch ((Conv.tb s[2 * k + 1] ^^ q) ^^ q)]⟩ : ByteArray).toList == (s.extract (2 * k) (2 * k + 2)).toList) = false := by
          rw [Lib.toList_data, Lib.toList_data, dE, beq_eq_false_iff_ne]
          intro e
          injection e with e1 _
          exact hm e1.symm
        obtain ⟨e1, e2⟩ := Conv.dec_stop s.data.toList k l p q _ _ (get_data s _ hk0) (get_data s _ hk1) hd.out hm
        have E1 := Lib.hid e1
        have E2 := Lib.hid e2
        generalize (⟨#[Conv.ch (((Conv.tb s[2 * k + 1] ^^ q) ^^ p) ^^ q), Conv.ch ((Conv.tb s[2 * k + 1] ^^ q) ^^ q)]⟩ : ByteArray) = OUT at hcmp ⊢
        clear e1 e2 hd hm hb2 dE
        go_wp2_with fail
        go_ret2
        exact ⟨by rw [E1.out, E2.out]; rfl, bchain hb hB⟩
    · obtain rfl : k = s.size / 2 := by omega
      have hdec := Conv.dec_end s.data.toList (s.size / 2) l p q (by rw [toList_length]; omega) hd.out
      have HDEC := Lib.hid hdec
      clear hd hdec
      go_wp2_with fail
      refine (Any.Builder_String_any_k Tryd.lays169 Tryd.Builder_Extra_169 w2.heap.size w2.heap.size _ wr (Lib.IsBuilderF.of hbl) hB.size).mono ?_
      rintro e w3 ⟨rfl, _, hb3, _⟩
      have hB3 := hB.trans hb3
      have zX : (⟨(l.map Conv.ch).toArray⟩ : ByteArray).size = s.size / 2 := by rw [ByteArray.size]; simp [hl]
      have dX : (⟨(l.map Conv.ch).toArray⟩ : ByteArray).data.toList = l.map Conv.ch := rfl
      generalize (⟨(l.map Conv.ch).toArray⟩ : ByteArray) = Y at zX dX ⊢
      obtain ⟨m, hm⟩ : ∃ m : Nat, s.size / 2 = m + 2 := ⟨s.size / 2 - 2, by omega⟩
      have zX2 : (Y.size : Int) - 2 = (m : Nat) := by omega
      have dE : (Y.extract m (m + 2)).data.toList = (l.drop (l.length - 2)).map Conv.ch := by
        rw [Lib.extract_data, dX, hl, hm, List.map_drop]
        refine List.take_of_length_le ?_
        simp [hl, hm]
      have dT : (Y.extract 0 m).data.toList = (l.take (l.length - 2)).map Conv.ch := by
        rw [Lib.extract_data, dX, hl, hm, List.drop_zero, List.map_take]
        rfl
      have hx := HDEC.out
      by_cases hz : l.drop (l.length - 2) = [false, false]
      · have hcmp : ((Y.extract m (m + 2)).toList == [48, 48]) = true := by
          rw [Lib.toList_data, dE, hz]
          rfl
        have hxX : Conv.extX s.data.toList = (Y.extract 0 m).data.toList := by
          rw [dT]
          unfold Conv.extX
          rw [hx]
          simp only [hz, if_true]
        have hxE : Conv.extE s.data.toList = 0 := by
          unfold Conv.extE
          rw [hx]
          simp only [hz, if_true]
        have E1 := Lib.hid hxX
        have E2 := Lib.hid hxE
        clear hx hxX hxE dT dE dX hz
        go_wp2_with fail
        go_ret2
        exact ⟨by rw [E1.out, E2.out]; exact congrArg (fun b => Ending.returned (.tuple #[.string b, .int .i64 0])) (mk_toList _).symm, bchain hb hB3⟩
      · have hcmp : ((Y.extract m (m + 2)).toList == [48, 48]) = false := by
          rw [Lib.toList_data, dE, beq_eq_false_iff_ne]
          intro e
          exact hz (Conv.map_ch_zero e)
        have hxX : Conv.extX s.data.toList = [] := by
          unfold Conv.extX
          rw [hx]
          simp only [hz, if_false]
        have hxE : Conv.extE s.data.toList = 11 := by
          unfold Conv.extE
          rw [hx]
          simp only [hz, if_false]
        have E1 := Lib.hid hxX
        have E2 := Lib.hid hxE
        clear hx hxX hxE dT dE dX hz
        go_wp2_with fail
        go_ret2
        exact ⟨by rw [E1.out, E2.out]; rfl, bchain hb hB3⟩
end Go.Proofs.YtnklgppfggkeoaaDoor
