/-
  strings.Cut at one byte; the law Greedy of paragraphs, walked.
-/
import Derived.Test.YtbfgjngljggbpaaParLaw1
namespace Go.Proofs.Ytbfgjngljggbpaa
open Go.RowKit

theorem headD_spA (q : UInt8) (l : List UInt8) : (Sep.spA q [] l).headD [] = if Lib.index l [q] = -1 then l else l.take (Lib.index l [q]).toNat := by
  have hge := Lib.index_ge l [q]
  by_cases hm : Lib.index l [q] = -1
  · rw [if_pos hm, (Sep.spA_index l []).1 hm]
    rfl
  · obtain ⟨i, hi⟩ : ∃ i : Nat, Lib.index l [q] = i := ⟨(Lib.index l [q]).toNat, by omega⟩
    rw [if_neg hm, (Sep.spA_index l []).2 i hi, hi]
    simp
theorem scut_any (s : ByteArray) (c : UInt8) (w : World) (hs : s.size ≤ 1048576) :
    Calls Try.prog 28 #[.string s, .string ⟨#[c]⟩] w fun e w' => ∃ (F X : ByteArray) (b : Bool), e = .returned (.tuple #[.string F, .string X, .bool b]) ∧ F.data.toList = (Sep.spA c [] s.data.toList).headD [] ∧ ∃ n, w' = w.drewN n := by
  have hix := fun w => Try.stringslite_Index_one s c w
  rw [← Lib.index_one] at hix
  have hh := headD_spA c s.data.toList
  have hge := Lib.index_ge s.data.toList [c]
  have hroom := Lib.index_room s.data.toList [c]
  generalize (Sep.spA c [] s.data.toList).headD [] = R at *
  generalize Lib.index s.data.toList [c] = i at *
  have HH := Lib.hid hh
  clear hh
  by_cases hi : i = -1
  · subst hi
    clear hroom hge
    go_enter Try.func28, Try.ntmps28
    go_wp2_with fail
    refine (hix _).mono ?_
    rintro e w1 ⟨rfl, rfl⟩
    go_wp2_with fail
    go_ret3
    exact ⟨_, _, _, rfl, by rw [HH.out]; rfl, 0, rfl⟩
  · obtain ⟨k, rfl⟩ := Int.eq_ofNat_of_zero_le (show 0 ≤ i by omega)
    have hr := hroom (by omega)
    rw [toList_length] at hr
    have hr2 : k + 1 ≤ s.size := by simp at hr; omega
    have hk1 : (⟨#[c]⟩ : ByteArray).size = 1 := rfl
    have hF : Hid (R = s.data.toList.take k) := by
      show _ = _
      rw [HH.out, if_neg (by omega), Int.toNat_natCast]
    clear hroom hge hi hr HH
    go_enter Try.func28, Try.ntmps28
    go_wp2_with fail
    refine (hix _).mono ?_
    rintro e w1 ⟨rfl, rfl⟩
    go_wp2_with fail
    go_quiet (fail)
    go_wp2_with fail
    go_ret3
    exact ⟨_, _, _, rfl, by rw [hF.out]; exact extract_pre s k, _, rfl⟩
theorem cut_any (s : ByteArray) (c : UInt8) (w : World) (hs : s.size ≤ 1048576) :
    Calls Try.prog 16 #[.string s, .string ⟨#[c]⟩] w fun e w' => ∃ (F X : ByteArray) (b : Bool), e = .returned (.tuple #[.string F, .string X, .bool b]) ∧ F.data.toList = (Sep.spA c [] s.data.toList).headD [] ∧ ∃ n, w' = w.drewN n := by
  go_enter Try.func16, Try.ntmps16
  go_wp2_with fail
  refine (scut_any s c _ hs).mono ?_
  rintro e w1 ⟨F, X, b, rfl, hF, n, rfl⟩
  go_wp2_with fail
  go_ret3
  exact ⟨F, X, b, rfl, hF, n, rfl⟩

set_option maxHeartbeats 2000000 in
theorem law_greedy (z : Int) (hz : (Lit.int .u8 z).wf = true) (v : Value) (ws : List (List UInt8)) (w : World) (hW : Words w v ws) :
    Calls Try.prog 6 #[v, .int .u8 z] w fun e w' => e = .returned (.bool true) ∧ Below w.heap.size w w' := by
  obtain ⟨wd, e1, w1, w2, n, rfl, hn⟩ := width_of hz 200 (by decide) (by decide)
  have e1 : ((n : Int) % 200 + 1) = wd := e1
  have caw := fun w => awake50_any w
  have cg := fun w hW => greatW v ws w hW
  have cw := fun w hW => wrapW v ws wd w hW w1
  have HW := Lib.hid hW
  obtain ⟨ao, cap, rfl, _, _, _, hbk⟩ := hW
  clear hz
  by_cases hg : 800 < totalL ws
  · rw [decide_eq_true hg] at cg
    clear hg
    go_enter Try.func6, Try.ntmps6
    go_wp2_with fail
    refine (cg _ HW.out).mono ?_
    rintro e w3 ⟨rfl, rfl⟩
    go_wp2_with fail
    refine (caw _).mono ?_
    rintro e w3 ⟨rfl, hb3⟩
    go_wp2_with fail
    go_ret
    exact ⟨rfl, hb3⟩
  rw [decide_eq_false hg] at cg
  clear hg
  rcases perr_int ws wd with hE | hE
  rotate_left
  · generalize Par.perr ws wd = E at *
    go_enter Try.func6, Try.ntmps6
    go_wp2_with fail
    refine (cg _ HW.out).mono ?_
    rintro e w3 ⟨rfl, rfl⟩
    go_wp2_with fail
    refine (cw _ HW.out).mono ?_
    rintro e w3 ⟨v, rfl, ho, hb3⟩
    go_wp2_with fail
    refine (caw _).mono ?_
    rintro e w4 ⟨rfl, hb4⟩
    go_wp2_with fail
    go_ret
    exact ⟨rfl, bchain hb3 hb4⟩
  have hpv : parV ws wd = Par.wrap wd ws := by rw [parV, if_pos hE]; rfl
  rw [hE, hpv] at cw
  have HG := Lib.hid fun (i : Nat) (a b : List UInt8) (h1 : (Par.wrap wd ws)[i]? = some a) (h2 : (Par.wrap wd ws)[i + 1]? = some b) => Par.greedy_law hE h1 h2
  have hle := Par.lines_le (w := wd) (K := 200) w2 (ps := Par.pieces wd ws) (fun p hp => Nat.le_trans (Par.pieces_le w1 ws p hp) w2)
  have hle2 : ∀ x ∈ Par.wrap wd ws, x.length ≤ 200 := hle
  have HL := Lib.hid hle2
  have hcnt : (Par.wrap wd ws).length ≤ 1048576 := by
    have h1 := Par.lines_count wd (Par.pieces wd ws)
    have h2 := Par.pieces_count (w := wd) w1 ws
    have h3 : (ws.map fun x => x.length + 1).sum ≤ 1048576 := hbk
    have h4 : (Par.wrap wd ws).length ≤ (Par.pieces wd ws).length := h1
    omega
  clear hpv hE hle hle2 hbk
  generalize Par.wrap wd ws = ls at *
  go_enter Try.func6, Try.ntmps6
  go_wp2_with fail
  refine (cg _ HW.out).mono ?_
  rintro e w3 ⟨rfl, rfl⟩
  go_wp2_with fail
  refine (cw _ HW.out).mono ?_
  rintro e w4 ⟨v, rfl, ho, hb3⟩
  obtain ⟨ao2, cap2, rfl, hao⟩ := ho.form
  rw [strsL_length] at ho hao ⊢
  go_wp2_with fail
  go_loopw [8] (fun i wr => ∃ k m : Nat, 1 ≤ k ∧ k ≤ ls.length + 1 ∧ i = .int .i64 k ∧ wr = w4.drewN m) (fun i _ => ls.length + 1 - (intOf i).toNat)
  case atStart => exact ⟨1, 0, Nat.le_refl _, by omega, rfl, rfl⟩
  case round =>
    obtain ⟨k, m, hk1, hk, rfl, rfl⟩ := hrel
    by_cases hlt : k < ls.length
    · obtain ⟨a, ha⟩ : ∃ a, ls[k - 1]? = some a := ⟨_, List.getElem?_eq_getElem (by omega)⟩
      obtain ⟨b, hb⟩ : ∃ b, ls[k]? = some b := ⟨_, List.getElem?_eq_getElem hlt⟩
      obtain ⟨g, rfl⟩ := hao (by omega)
      have c1 := ho.cell k _ (strsL_get ls k b hb)
      have c2 := ho.cell (k - 1) _ (strsL_get ls (k - 1) a ha)
      have hgap := HG.out (k - 1) a b ha (by rw [show k - 1 + 1 = k by omega]; exact hb)
      have hal := HL.out a (List.mem_of_getElem? ha)
      have hbl := HL.out b (List.mem_of_getElem? hb)
      rw [Par.cut_fst] at hgap
      have hA : (⟨a.toArray⟩ : ByteArray).size = a.length := mk_size a
      have hB : (⟨b.toArray⟩ : ByteArray).size = b.length := mk_size b
      have hBd : (⟨b.toArray⟩ : ByteArray).data.toList = b := rfl
      generalize (⟨a.toArray⟩ : ByteArray) = A at *
      generalize (⟨b.toArray⟩ : ByteArray) = B at *
      have hc := fun w => cut_any B 32 w (by omega)
      rw [hBd] at hc
      have hkk : ((k : Int) - 1) = ((k - 1 : Nat) : Int) := by omega
      have hFl : ((Sep.spA 32 [] b).headD []).length ≤ 200 := by
        rw [headD_spA]
        split
        · exact hbl
        · rw [List.length_take]; omega
      generalize (Sep.spA 32 [] b).headD [] = fr at *
      clear hBd ha hb
      go_wp2_with fail
      refine (hc _).mono ?_
      rintro e w5 ⟨F, X, bb, rfl, hF, q, rfl⟩
      have hFs : F.size = fr.length := by rw [← toList_length, hF]
      clear hF
      go_wp2_with fail
      go_roundw
      case rel => exact ⟨k + 1, m + q, by omega, by omega, by go_num, by simp⟩
      case measure => simp [intOf]; omega
    · go_wp2_with fail
      refine (caw _).mono ?_
      rintro e w5 ⟨rfl, hb5⟩
      go_wp2_with fail
      go_ret
      exact ⟨rfl, bchain (below_drewN hb3 m) hb5⟩
end Go.Proofs.Ytbfgjngljggbpaa
