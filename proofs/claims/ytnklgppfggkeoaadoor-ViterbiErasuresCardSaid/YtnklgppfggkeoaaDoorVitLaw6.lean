/-
  The law ViterbiErasures, walked.
-/
import Derived.Test.YtnklgppfggkeoaaDoorVitLaw4
namespace Go.Proofs.YtnklgppfggkeoaaDoor
open Go.RowKit

def er (X : List UInt8) (ps : List Nat) : List UInt8 := ps.foldl (fun l p => l.set p 63) X
theorem er_length (X : List UInt8) (ps : List Nat) : (er X ps).length = X.length := by
  unfold er
  induction ps generalizing X with
  | nil => rfl
  | cons p ps ih => rw [List.foldl_cons, ih, List.length_set]
theorem er_snoc (X : List UInt8) (ps : List Nat) (p : Nat) : er X (ps ++ [p]) = (er X ps).set p 63 := by
  unfold er
  rw [List.foldl_append]
  rfl
/-- What the loop keeps. -/
def ErRel (w2 : World) (B g : Nat) (X : List UInt8) (ps : List Nat) (k : Nat) (wr : World) : Prop := Row wr g 5 (bytesL (er X (ps.take k))) ∧ Below B w2 wr
theorem ErRel.step {w2 wr : World} {B g : Nat} {X : List UInt8} {ps : List Nat} {k p : Nat} (h : ErRel w2 B g X ps k wr) (hB : B ≤ g) (hp : ps[k]? = some p) : ErRel w2 B g X ps (k + 1) (wr.setCell ⟨g, p, none⟩ (.int .u8 63)) := by
  refine ⟨?_, h.2.setCell (by simpa using hB) _⟩
  obtain ⟨hk, rfl⟩ := List.getElem?_eq_some_iff.1 hp
  have e : bytesL (er X (ps.take (k + 1))) = (bytesL (er X (ps.take k))).set ps[k] (.int .u8 63) := by
    rw [List.take_succ_eq_append_getElem hk, er_snoc]
    exact (bytesL_set _ _ _).symm
  rw [e]
  exact h.1.store _ _

set_option maxHeartbeats 4000000 in
set_option maxRecDepth 100000 in
theorem law_erasures (a0 a1 a2 a3 : Int) (w0 : (Lit.int .u16 a0).wf = true) (w1 : (Lit.int .u16 a1).wf = true) (w2 : (Lit.int .u16 a2).wf = true) (w3 : (Lit.int .u16 a3).wf = true) (v0 : Value) (zs : List Int) (w : World) (x0 : IntsArg w .u8 v0 zs) :
    Calls Tryd.prog 7 #[v0, .agg #[.int .u16 a0, .int .u16 a1, .int .u16 a2, .int .u16 a3]] w fun e w' => e = .returned (.bool true) ∧ Below w.heap.size w w' := by
  obtain ⟨m0, rfl, hm0⟩ := u16_nat w0
  obtain ⟨m1, rfl, hm1⟩ := u16_nat w1
  obtain ⟨m2, rfl, hm2⟩ := u16_nat w2
  obtain ⟨m3, rfl, hm3⟩ := u16_nat w3
  clear w0 w1 w2 w3
  have c41 : Tryd.prog.cellsOf 41 = 4 := by kernel_rfl
  have hbits := fun (h : zs.length ≤ 1000) (w' : World) (hb : Below w.heap.size w w') => Bits_any v0 zs w' (x0.below hb) h
  obtain ⟨ao, cap, rfl, hlc, hcm, hcell0, hwf⟩ := x0
  unfold maxLen at hcm
  clear hcell0 hwf
  by_cases h1 : 100 < (zs.length : Int)
  · clear hbits
    go_enter Tryd.func7, Tryd.ntmps7
    go_wp2_with fail
    refine (awake_any _).mono ?_
    rintro e w1 ⟨rfl, hb1⟩
    go_wp2_with fail
    go_ret
    exact ⟨rfl, ((Below.refl _ w).alloc (Nat.le_refl _) _).trans (hb1.mono (by simp))⟩
  · have hbits2 := hbits (by omega)
    obtain ⟨S, hS⟩ : ∃ V : ByteArray, ⟨(zs.map bc).toArray⟩ = V := ⟨_, rfl⟩
    have dS : S.data.toList = zs.map bc := by rw [← hS]
    have okS : Conv.ok S.data.toList = true := by rw [dS]; exact bc_ok zs
    have zS : S.size = zs.length := by rw [← toList_length, dS, List.length_map]
    rw [hS] at hbits2
    have henc := fun w => encode_any S w (by omega)
    obtain ⟨e1, e2⟩ := Conv.enc_ok (s := S.data.toList) (by rw [toList_length]; omega) okS
    obtain ⟨X, hX⟩ : ∃ V : ByteArray, ⟨(Conv.encX S.data.toList).toArray⟩ = V := ⟨_, rfl⟩
    have dX : X.data.toList = Conv.code S.data.toList := by rw [← hX]; exact e1
    have zX : X.size = 2 * S.size + 4 := by rw [← toList_length, dX, Conv.code_length, toList_length]
    rw [hX, e2] at henc
    have hXi : X.toList.isEmpty = false := by
      rw [Lib.toList_data]
      cases hd : X.data.toList with
      | nil =>
        have := congrArg List.length hd
        rw [toList_length, List.length_nil] at this
        omega
      | cons _ _ => rfl
    have hXe : (X.toList == ([] : List UInt8)) = false := by
      rw [Lib.toList_data, beq_eq_false_iff_ne]
      intro h
      have := congrArg List.length h
      rw [toList_length, List.length_nil] at this
      omega
    obtain ⟨ps, hps⟩ : ∃ ps : List Nat, [m0 % X.size, m1 % X.size, m2 % X.size, m3 % X.size] = ps := ⟨_, rfl⟩
    have hlt : ∀ m, m % X.size < X.size := fun m => Nat.mod_lt _ (by omega)
    have h0 := hlt m0
    have h01 := hlt m1
    have h02 := hlt m2
    have h03 := hlt m3
    obtain ⟨F, hF⟩ : ∃ V : ByteArray, ⟨(er X.data.toList ps).toArray⟩ = V := ⟨_, rfl⟩
    have dF : F.data.toList = er X.data.toList ps := by rw [← hF]
    have zF : F.size = X.size := by rw [← toList_length, dF, er_length, toList_length]
    have hfour : er X.data.toList ps = ((((Conv.code S.data.toList).set (m0 % X.size) 63).set (m1 % X.size) 63).set (m2 % X.size) 63).set (m3 % X.size) 63 := by rw [← hps, dX]; rfl
    obtain ⟨k1, k2, k3⟩ := Vit.erased S.data.toList okS (m0 % X.size) (m1 % X.size) (m2 % X.size) (m3 % X.size)
    rw [← hfour, ← dF] at k1 k2 k3
    have v : vErr F.data.toList = 0 := Vit.err_ok (by
      rw [dF, hfour]
      exact Conv.cells_set _ _ _ (Conv.cells_set _ _ _ (Conv.cells_set _ _ _ (Conv.cells_set _ _ _ (Conv.cells_of_ok _ (Conv.ok_code _)) rfl) rfl) rfl) rfl) (by rw [toList_length]; omega)
    obtain ⟨d1, d2, d3⟩ := Vit.dec_ok v
    have hdec := fun w => decode_any F w (by omega)
    rw [v, d1, d2, d3, k1, k2, k3] at hdec
    have eS : (⟨S.data.toList.toArray⟩ : ByteArray) = S := mk_toList S
    rw [eS] at hdec
    have hSS : (S.toList == S.toList) = true := by simp
    have HB := Lib.hid hbits2
    have HE := Lib.hid henc
    have HD := Lib.hid hdec
    have HPS := Lib.hid hps
    have HF := Lib.hid hF
    have ZX := Lib.hid zX
    have hXb : X.size ≤ 1000 := by omega
    have hX4 : 4 ≤ X.size := by omega
    clear hbits hbits2 henc hdec hps hF dF zF hfour k1 k2 k3 v d1 d2 d3 eS dX e1 e2 okS dS hS zS zX hX hlt
    have i0 : ∀ w, (Instr.index 41 (.agg #[.int .u16 (m0 : Int), .int .u16 (m1 : Int), .int .u16 (m2 : Int), .int .u16 (m3 : Int)]) (.int .i64 0)).run Tryd.prog w = .ok (.int .u16 (m0 : Int)) w := fun _ => by kernel_rfl
    have i1 : ∀ w, (Instr.index 41 (.agg #[.int .u16 (m0 : Int), .int .u16 (m1 : Int), .int .u16 (m2 : Int), .int .u16 (m3 : Int)]) (.int .i64 1)).run Tryd.prog w = .ok (.int .u16 (m1 : Int)) w := fun _ => by kernel_rfl
    have i2 : ∀ w, (Instr.index 41 (.agg #[.int .u16 (m0 : Int), .int .u16 (m1 : Int), .int .u16 (m2 : Int), .int .u16 (m3 : Int)]) (.int .i64 2)).run Tryd.prog w = .ok (.int .u16 (m2 : Int)) w := fun _ => by kernel_rfl
    have i3 : ∀ w, (Instr.index 41 (.agg #[.int .u16 (m0 : Int), .int .u16 (m1 : Int), .int .u16 (m2 : Int), .int .u16 (m3 : Int)]) (.int .i64 3)).run Tryd.prog w = .ok (.int .u16 (m3 : Int)) w := fun _ => by kernel_rfl
    have hb0 : Below w.heap.size w (w.alloc (.cells #[.int .u16 (m0 : Int), .int .u16 (m1 : Int), .int .u16 (m2 : Int), .int .u16 (m3 : Int)] 41)) := (Below.refl _ w).alloc (Nat.le_refl _) _
    go_enter Tryd.func7, Tryd.ntmps7
    go_wp2_with fail
    refine (HB.out _ hb0).mono ?_
    rintro e w1 ⟨rfl, hb1⟩
    have hz1 := hb1.size
    simp at hz1
    have hcc := hb1.cell (p := ⟨w.heap.size, 0, none⟩) (by simp)
    have hcc1 := hb1.cell (p := ⟨w.heap.size, 1, none⟩) (by simp)
    have hcc2 := hb1.cell (p := ⟨w.heap.size, 2, none⟩) (by simp)
    have hcc3 := hb1.cell (p := ⟨w.heap.size, 3, none⟩) (by simp)
    have hw0 : w.heap.size < w1.heap.size := by omega
    have hc1 := hb0.trans (hb1.mono (by simp))
    clear hb1 hb0
    go_wp2_with fail
    refine (HE.out _).mono ?_
    rintro e w2 ⟨rfl, hb2⟩
    have hdd := hb2.cell (p := ⟨w.heap.size, 0, none⟩) hw0
    have hdd1 := hb2.cell (p := ⟨w.heap.size, 1, none⟩) hw0
    have hdd2 := hb2.cell (p := ⟨w.heap.size, 2, none⟩) hw0
    have hdd3 := hb2.cell (p := ⟨w.heap.size, 3, none⟩) hw0
    have hz2 := hb2.size
    have hw02 : w.heap.size < w2.heap.size := by omega
    have hc2 := bchain hc1 hb2
    clear hb2 hc1
    obtain ⟨cap1, w3, run1, row1, bel1, sz1⟩ := bytes_of (P := Tryd.prog) 9 40 5 Tryd.underlying9 Tryd.underlying40 Tryd.underlying5 X w2
    have hee := bel1.cell (p := ⟨w.heap.size, 0, none⟩) hw02
    have hee1 := bel1.cell (p := ⟨w.heap.size, 1, none⟩) hw02
    have hee2 := bel1.cell (p := ⟨w.heap.size, 2, none⟩) hw02
    have hee3 := bel1.cell (p := ⟨w.heap.size, 3, none⟩) hw02
    clear sz1
    go_wp2_with fail
    go_loopg [35] 4 (fun g iv wr => ∃ k : Nat, g = 4 - k ∧ k ≤ 4 ∧ iv = .int .i64 k ∧ ErRel w2 w2.heap.size w2.heap.size X.data.toList ps k wr)
    case atStart => exact ⟨0, rfl, by omega, rfl, row1, bel1⟩
    case round =>
      obtain ⟨k, hg, hk, rfl, hr⟩ := hrel
      have HG := Lib.hid hg
      clear hg run1 row1 bel1 hcc hcc1 hcc2 hcc3 hdd hdd1 hdd2 hdd3 hee hee1 hee2 hee3
      have hlen : ∀ p, p < X.size → p < (bytesL (er X.data.toList (ps.take k))).length := fun p hp => by rw [bytesL_length, er_length, toList_length]; exact hp
      have HLEN := Lib.hid hlen
      clear hlen
      have hk5 : k = 0 ∨ k = 1 ∨ k = 2 ∨ k = 3 ∨ k = 4 := by omega
      rcases hk5 with rfl | rfl | rfl | rfl | rfl
      · have hps : ps[0]? = some (m0 % X.size) := by rw [← HPS.out]; rfl
        have hnext := hr.step (Nat.le_refl _) hps
        obtain ⟨VV, hVV⟩ : ∃ VV, (bytesL (er X.data.toList (ps.take 0)))[m0 % X.size]? = some VV := ⟨_, List.getElem?_eq_getElem (HLEN.out (m0 % X.size) h0)⟩
        have hcell := hr.1.cell _ VV hVV
        have hfr := hr.1.frozen (m0 % X.size) (HLEN.out _ h0)
        have hq : 0 ≤ (m0 : Int) % (X.size : Int) ∧ (m0 : Int) % (X.size : Int) < (X.size : Int) := ⟨Int.emod_nonneg _ (by omega), Int.emod_lt_of_pos _ (by omega)⟩
        clear hr hps hVV
        have HNX := Lib.hid hnext
        clear hnext
        go_wp2_with fail
        go_roundg (4 - (0 + 1))
        case measure => have := HG.out; omega
        case rel => exact ⟨0 + 1, rfl, by omega, rfl, HNX.out⟩
      · have hps : ps[1]? = some (m1 % X.size) := by rw [← HPS.out]; rfl
        have hnext := hr.step (Nat.le_refl _) hps
        obtain ⟨VV, hVV⟩ : ∃ VV, (bytesL (er X.data.toList (ps.take 1)))[m1 % X.size]? = some VV := ⟨_, List.getElem?_eq_getElem (HLEN.out (m1 % X.size) h01)⟩
        have hcell := hr.1.cell _ VV hVV
        have hfr := hr.1.frozen (m1 % X.size) (HLEN.out _ h01)
        have hq : 0 ≤ (m1 : Int) % (X.size : Int) ∧ (m1 : Int) % (X.size : Int) < (X.size : Int) := ⟨Int.emod_nonneg _ (by omega), Int.emod_lt_of_pos _ (by omega)⟩
        clear hr hps hVV
        have HNX := Lib.hid hnext
        clear hnext
        go_wp2_with fail
        go_roundg (4 - (1 + 1))
        case measure => have := HG.out; omega
        case rel => exact ⟨1 + 1, rfl, by omega, rfl, HNX.out⟩
      · have hps : ps[2]? = some (m2 % X.size) := by rw [← HPS.out]; rfl
        have hnext := hr.step (Nat.le_refl _) hps
        obtain ⟨VV, hVV⟩ : ∃ VV, (bytesL (er X.data.toList (ps.take 2)))[m2 % X.size]? = some VV := ⟨_, List.getElem?_eq_getElem (HLEN.out (m2 % X.size) h02)⟩
        have hcell := hr.1.cell _ VV hVV
        have hfr := hr.1.frozen (m2 % X.size) (HLEN.out _ h02)
        have hq : 0 ≤ (m2 : Int) % (X.size : Int) ∧ (m2 : Int) % (X.size : Int) < (X.size : Int) := ⟨Int.emod_nonneg _ (by omega), Int.emod_lt_of_pos _ (by omega)⟩
        clear hr hps hVV
        have HNX := Lib.hid hnext
        clear hnext
        go_wp2_with fail
        go_roundg (4 - (2 + 1))
        case measure => have := HG.out; omega
        case rel => exact ⟨2 + 1, rfl, by omega, rfl, HNX.out⟩
      · have hps : ps[3]? = some (m3 % X.size) := by rw [← HPS.out]; rfl
        have hnext := hr.step (Nat.le_refl _) hps
        obtain ⟨VV, hVV⟩ : ∃ VV, (bytesL (er X.data.toList (ps.take 3)))[m3 % X.size]? = some VV := ⟨_, List.getElem?_eq_getElem (HLEN.out (m3 % X.size) h03)⟩
        have hcell := hr.1.cell _ VV hVV
        have hfr := hr.1.frozen (m3 % X.size) (HLEN.out _ h03)
        have hq : 0 ≤ (m3 : Int) % (X.size : Int) ∧ (m3 : Int) % (X.size : Int) < (X.size : Int) := ⟨Int.emod_nonneg _ (by omega), Int.emod_lt_of_pos _ (by omega)⟩
        clear hr hps hVV
        have HNX := Lib.hid hnext
        clear hnext
        go_wp2_with fail
        go_roundg (4 - (3 + 1))
        case measure => have := HG.out; omega
        case rel => exact ⟨3 + 1, rfl, by omega, rfl, HNX.out⟩
      · have hrow := hr.1
        have hps4 : ps.take 4 = ps := by rw [← HPS.out]; rfl
        rw [hps4] at hrow
        have hcv := conv_row (P := Tryd.prog) 40 5 9 Tryd.underlying40 Tryd.underlying5 Tryd.underlying9 hrow X.size cap1 (by rw [er_length, toList_length])
        rw [HF.out] at hcv
        have hc5 := hc2.trans (hr.2.mono (by have := hc2.size; omega))
        clear hps4 hrow hr
        go_wp2_with fail
        refine (HD.out _).mono ?_
        rintro e w5 ⟨rfl, hb5⟩
        go_wp2_with fail
        refine (awake_any _).mono ?_
        rintro e w6 ⟨rfl, hb6⟩
        go_wp2_with fail
        go_ret
        exact ⟨rfl, bchain (bchain hc5 hb5) hb6⟩
end Go.Proofs.YtnklgppfggkeoaaDoor
