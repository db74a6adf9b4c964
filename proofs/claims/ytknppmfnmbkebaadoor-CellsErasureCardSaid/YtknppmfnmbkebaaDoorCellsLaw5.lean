/-
  The law CellsErasure, walked.
-/
import Derived.Test.YtknppmfnmbkebaaDoorCellsLaw2
import Derived.Test.YtknppmfnmbkebaaDoorCellsEras
import Derived.Test.YtknppmfnmbkebaaDoorArgs
import Derived.Deep.OwnRows
namespace Go.Proofs.YtknppmfnmbkebaaDoor
open Go.RowKit

theorem info_bool : (Tryd.prog.info? 4).map (fun i => (i.zero, i.size, i.bytes)) = some (some (.bool false), 1, 1) := by kernel_rfl
def boolsL (l : List Bool) : List Value := l.map Value.bool
theorem boolsL_length (l : List Bool) : (boolsL l).length = l.length := by simp [boolsL]
theorem boolsL_set (l : List Bool) (i : Nat) (b : Bool) : (boolsL l).set i (.bool b) = boolsL (l.set i b) := by simp [boolsL, List.map_set]
def posOf (n : Nat) (zs : List Int) : List Nat := zs.map fun z => z.toNat % n
theorem posOf_take (n : Nat) (zs : List Int) (k : Nat) (m : Nat) (h : zs[k]? = some (m : Int)) : posOf n (zs.take (k + 1)) = posOf n (zs.take k) ++ [m % n] := by
  obtain ⟨hlt, he⟩ := List.getElem?_eq_some_iff.1 h
  unfold posOf
  rw [List.take_succ_eq_append_getElem hlt, List.map_append, he]
  simp

theorem u16_nat {z : Int} (h : (Lit.int .u16 z).wf = true) : ∃ m : Nat, z = m ∧ m < 65536 := by
  have h2 : 0 ≤ z ∧ z < 65536 := by
    have h3 : 0 ≤ z ∧ z ≤ 65535 := by simpa [Lit.wf, IntKind.min, IntKind.max, IntKind.signed, IntKind.bits] using h
    omega
  exact ⟨z.toNat, by omega, by omega⟩

set_option maxHeartbeats 2000000 in
theorem law_erasure (a0 : ByteArray) (w0 : a0.size ≤ 140737488351232) (v1 : Value) (zs : List Int) (w : World) (x1 : IntsArg w .u16 v1 zs) :
    Calls Tryd.prog 8 #[.string a0, v1] w fun e w' => e = .returned (.bool true) ∧ Below w.heap.size w w' := by
  obtain ⟨ao, cap, rfl, hlc, hcm, hcell0, hwf⟩ := x1
  unfold maxLen at hcm
  by_cases h1 : 500 < (a0.size : Int)
  · go_enter Tryd.func8, Tryd.ntmps8
    go_wp2_with (go_at_call 12; refine (alive_any _).mono ?_; rintro e w1 ⟨rfl, hb1⟩)
    go_ret
    exact ⟨rfl, hb1⟩
  by_cases h2 : a0 = ByteArray.empty
  · subst h2
    go_enter Tryd.func8, Tryd.ntmps8
    go_wp2_with (go_at_call 12; refine (alive_any _).mono ?_; rintro e w1 ⟨rfl, hb1⟩)
    go_ret
    exact ⟨rfl, hb1⟩
  have hne0 : a0.size ≠ 0 := fun h => h2 (of_toList (List.eq_nil_of_length_eq_zero (by rw [toList_length]; exact h)))
  have h2' : ((a0.size : Int) == 0) = false := by rw [beq_eq_false_iff_ne]; omega
  by_cases h3 : 100 < (zs.length : Int)
  · go_enter Tryd.func8, Tryd.ntmps8
    go_wp2_with (go_at_call 12; refine (alive_any _).mono ?_; rintro e w1 ⟨rfl, hb1⟩)
    go_ret
    exact ⟨rfl, hb1⟩
  go_enter Tryd.func8, Tryd.ntmps8
  go_wp2_with (go_at_call 12; refine (alive_any _).mono ?_; rintro e w1 ⟨rfl, hb1⟩)
  have hc1 : ∀ i n, zs[i]? = some n → ∃ a, ao = some a ∧ a.block < w.heap.size ∧ w.cell? (a.add i) = some (.int .u16 n) := fun i n hi => by
    obtain ⟨a, rfl, hcl⟩ := hcell0 i n hi
    exact ⟨a, rfl, by have := World.block_lt_of_cell? _ _ hcl; rwa [Go.ChangeShapes.block_add] at this, hcl⟩
  refine (from_any a0 _ (by omega)).mono ?_
  rintro e w2 ⟨rfl, hb2⟩
  have hb3 := bchain hb1 hb2
  clear hb1 hb2
  have zX : (⟨(Cells.fromBytes a0.data.toList).toArray⟩ : ByteArray).size = 8 * a0.size := by rw [mk_size, Cells.fromBytes_length, toList_length]
  have dX : (⟨(Cells.fromBytes a0.data.toList).toArray⟩ : ByteArray).data.toList = Cells.fromBytes a0.data.toList := rfl
  generalize (⟨(Cells.fromBytes a0.data.toList).toArray⟩ : ByteArray) = X at zX dX ⊢
  have DX := Lib.hid dX
  clear dX
  obtain ⟨cap1, w3, run1, row1, bel1, sz1⟩ := bytes_of (P := Tryd.prog) 9 35 5 Tryd.underlying9 Tryd.underlying35 Tryd.underlying5 X w2
  have hmk := run_make_row' (P := Tryd.prog) 37 4 (.bool false) 1 Tryd.underlying37 info_bool rfl .i64 .i64 a0.size (by omega) (by omega)
  rw [DX.out] at row1
  have hXl : (Cells.fromBytes a0.data.toList).length = 8 * a0.size := by rw [Cells.fromBytes_length, toList_length]
  have HXL := Lib.hid hXl
  clear hXl
  go_wp2_with fail
  go_loopg [38] zs.length (fun g i wr => ∃ k : Nat, g = zs.length - k ∧ k ≤ zs.length ∧ i = .int .i64 k ∧ Row wr w2.heap.size 5 (bytesL (Cells.erase (Cells.fromBytes a0.data.toList) (posOf (8 * a0.size) (zs.take k)))) ∧ Row wr (w2.heap.size + 1) 4 (boolsL (Cells.hits a0.size (posOf (8 * a0.size) (zs.take k)))) ∧ Below w2.heap.size w2 wr)
  case atStart =>
    refine ⟨0, rfl, Nat.zero_le _, rfl, row1.alloc _, ?_, bel1.alloc (by omega) _⟩
    have h := Row.made w3 4 (.bool false) a0.size
    have e : List.replicate a0.size (Value.bool false) = boolsL (Cells.hits a0.size (posOf (8 * a0.size) (zs.take 0))) := by simp [boolsL, Cells.hits, posOf]
    rw [← e, ← sz1]
    exact h
  case round =>
    obtain ⟨k, hg, hk, rfl, hrow, hhit, hb⟩ := hrel
    have HG := Lib.hid hg
    clear hg run1 hmk
    by_cases hlt : k < zs.length
    · obtain ⟨a, rfl, hab, hcl⟩ := hc1 k zs[k] (List.getElem?_eq_getElem hlt)
      have hcl2 : wr.cell? (a.add k) = some (.int .u16 zs[k]) := by
        have e1 : w2.cell? (a.add k) = w.cell? (a.add k) := hb3.cell (by rw [Go.ChangeShapes.block_add]; exact hab)
        have e2 : wr.cell? (a.add k) = w2.cell? (a.add k) := hb.cell (by rw [Go.ChangeShapes.block_add]; have := hb3.size; omega)
        rw [e2, e1, hcl]
      have hwf1 := hwf zs[k] (List.getElem_mem _)
      obtain ⟨m, hm, hm16⟩ := u16_nat hwf1
      rw [hm] at hcl2
      have hzk : zs[k]? = some (m : Int) := by rw [List.getElem?_eq_getElem hlt, hm]
      have HZ := Lib.hid hzk
      clear hzk hwf1 hm hcl hcell0 hc1
      have hq : m % (8 * a0.size) < 8 * a0.size := Nat.mod_lt _ (by omega)
      have hq8 : m % (8 * a0.size) / 8 < a0.size := by omega
      have hlc1 : m % (8 * a0.size) < (bytesL (Cells.erase (Cells.fromBytes a0.data.toList) (posOf (8 * a0.size) (zs.take k)))).length := by rw [bytesL_length, Cells.erase_length, HXL.out]; exact hq
      have hlc2 : m % (8 * a0.size) / 8 < (boolsL (Cells.hits a0.size (posOf (8 * a0.size) (zs.take k)))).length := by rw [boolsL_length, Cells.hits_length]; exact hq8
      have hcell := hrow.cell _ _ (List.getElem?_eq_getElem hlc1)
      have hcell2 := hhit.cell _ _ (List.getElem?_eq_getElem hlc2)
      have hfr := hrow.frozen _ hlc1
      have hfr2 := hhit.frozen _ hlc2
      generalize (bytesL (Cells.erase (Cells.fromBytes a0.data.toList) (posOf (8 * a0.size) (zs.take k))))[m % (8 * a0.size)] = V1 at hcell
      generalize (boolsL (Cells.hits a0.size (posOf (8 * a0.size) (zs.take k))))[m % (8 * a0.size) / 8] = V2 at hcell2
      clear hlc1 hlc2
      have hqi : 0 ≤ (m : Int) % (8 * (a0.size : Int)) ∧ (m : Int) % (8 * (a0.size : Int)) < 8 * (a0.size : Int) := ⟨Int.emod_nonneg _ (by omega), Int.emod_lt_of_pos _ (by omega)⟩
      go_wp2_with fail
      go_roundg (zs.length - (k + 1))
      case measure => have := HG.out; omega
      case rel =>
        have e := posOf_take (8 * a0.size) zs k m HZ.out
        refine ⟨k + 1, rfl, by omega, by go_num, ?_, ?_, (hb.setCell (by simp) _).setCell (by simp) _⟩
        · rw [e, Cells.erase_snoc, ← bytesL_set]
          exact (hrow.store _ _).far (by simp) _
        · rw [e, Cells.hits_snoc, ← boolsL_set]
          exact (hhit.far (by simp) _).store _ _
    · obtain rfl : k = zs.length := by omega
      rw [List.take_length] at hrow hhit
      have hpos : ∀ p ∈ posOf (8 * a0.size) zs, p < 8 * a0.data.toList.length := fun p hp => by
        obtain ⟨z, _, rfl⟩ := List.mem_map.1 hp
        rw [toList_length]
        exact Nat.mod_lt _ (by omega)
      generalize posOf (8 * a0.size) zs = ps at hrow hhit hpos
      have hko := Cells.ok_erase (Cells.fromBytes a0.data.toList) ps (Cells.fromBytes_ok _)
      have hlen := Cells.erase_length (Cells.fromBytes a0.data.toList) ps
      have hbad := Cells.bad_erase a0.data.toList ps hpos
      have hbytes := Cells.toBytes_erase a0.data.toList ps
      have hbl := Cells.toBytes_length (Cells.erase (Cells.fromBytes a0.data.toList) ps)
      rw [HXL.out] at hlen
      rw [hlen] at hbl
      generalize Cells.erase (Cells.fromBytes a0.data.toList) ps = F at *
      have hcv := conv_row (P := Tryd.prog) 35 5 9 Tryd.underlying35 Tryd.underlying5 Tryd.underlying9 hrow (8 * a0.size) cap1 hlen.symm
      have zY : (⟨F.toArray⟩ : ByteArray).size = 8 * a0.size := by rw [mk_size]; exact hlen
      have dY : (⟨F.toArray⟩ : ByteArray).data.toList = F := rfl
      generalize (⟨F.toArray⟩ : ByteArray) = Y at zY dY hcv
      rw [← dY] at hko hbad hbytes hbl
      rw [toList_length] at hbad hbytes
      have KO := Lib.hid hko
      have BA := Lib.hid hbad
      have BY := Lib.hid hbytes
      have BL := Lib.hid hbl
      have HP := Lib.hid hpos
      have DY := Lib.hid dY
      clear hko hlen hbad hbytes hbl hpos dY hc1 hcell0 row1 bel1
      go_wp2_with fail
      refine (to_any Y _ (by omega) KO.out (by omega)).mono ?_
      rintro e w5 ⟨v, rfl, ho5, hb5⟩
      have hb6 := hb.trans (hb5.mono hb.size)
      have hhit5 := hhit.below hb5 hhit.lt
      have hrow5 := hrow.below hb5 hrow.lt
      clear hb5 hhit hrow
      rw [BA.out] at ho5
      have zT : (⟨(Cells.toBytes Y.data.toList).toArray⟩ : ByteArray).size = a0.size := by rw [mk_size, BL.out]; omega
      have dT : (⟨(Cells.toBytes Y.data.toList).toArray⟩ : ByteArray).data.toList = Cells.toBytes Y.data.toList := rfl
      generalize (⟨(Cells.toBytes Y.data.toList).toArray⟩ : ByteArray) = T at zT dT ⊢
      have DT := Lib.hid dT
      clear dT
      obtain ⟨ao5, cap5, rfl, hl5⟩ := IsL.of_own ho5
      have hll5 := Cells.filter_range_le (Cells.hit ps) a0.size
      have hneq : ((T.size : Int) != (a0.size : Int)) = false := by rw [bne_eq_false_iff_eq]; omega
      go_wp2_with fail
      generalize hL : (List.range a0.size).filter (Cells.hit ps) = L at *
      have HL := Lib.hid hL
      clear hL
      go_loopg [13, 73] a0.size (fun g n i wi => ∃ k q : Nat, g = a0.size - k ∧ k ≤ a0.size ∧ i = .int .i64 k ∧ n = .int .i64 ((List.range k).filter (Cells.hit ps)).length ∧ wi = w5.drewN q)
      case atStart => exact ⟨0, 0, rfl, Nat.zero_le _, rfl, rfl, rfl⟩
      case round =>
        obtain ⟨k, q, hg, hk, rfl, rfl, rfl⟩ := hrel
        have HG2 := Lib.hid hg
        clear hg
        by_cases hlt2 : k < a0.size
        · have hcell := hhit5.cell k (.bool (Cells.hit ps k)) (by rw [boolsL, List.getElem?_map, Cells.hits_get _ _ _ hlt2]; rfl)
          have hsucc := Cells.filter_range_succ (Cells.hit ps) k
          have HS := Lib.hid hsucc
          have hle := Cells.filter_range_le (Cells.hit ps) k
          clear hsucc
          cases hh : Cells.hit ps k
          · rw [hh] at hcell
            have hbyte := BY.out k hlt2 hh
            rw [← DT.out] at hbyte
            rw [get_of_lt T k (by omega), get_of_lt a0 k hlt2] at hbyte
            have hbyte2 : T[k]'(by omega) = a0[k] := Option.some.inj hbyte
            have hb1 : (((T[k]'(by omega)).toNat : Int) != (a0[k].toNat : Int)) = false := by rw [hbyte2, bne_self_eq_false]
            have HH := Lib.hid hh
            clear hbyte hbyte2 hh
            have hkT : k < T.size := by omega
            go_wp2_with fail
            go_quiet (fail)
            go_wp2_with fail
            go_roundg (a0.size - (k + 1))
            case measure => have := HG2.out; omega
            case rel => exact ⟨k + 1, _, rfl, by omega, by go_num, by rw [HS.out, HH.out]; go_num, rfl⟩
          · rw [hh] at hcell
            have hget := Cells.filter_range_get (Cells.hit ps) a0.size k hlt2 hh
            rw [HL.out] at hget
            have hltL := (List.getElem?_eq_some_iff.1 hget).1
            obtain ⟨g, rfl, hgc⟩ := hl5 _ _ hget
            have HH := Lib.hid hh
            clear hh hget
            generalize ((List.range k).filter (Cells.hit ps)).length = N at *
            go_wp2_with fail
            go_roundg (a0.size - (k + 1))
            case measure => have := HG2.out; omega
            case rel => exact ⟨k + 1, _, rfl, by omega, by go_num, by rw [HS.out, HH.out]; go_num, rfl⟩
        · obtain rfl : k = a0.size := by omega
          rw [HL.out]
          have hY : (⟨F.toArray⟩ : ByteArray) = Y := by
            refine of_toList ?_
            rw [DY.out]
          have hcvn : ∀ n, (convert 35 9 (.slice (some ⟨w2.heap.size, 0, none⟩) (8 * a0.size) cap1)).run Tryd.prog (w5.drewN n) = .ok (.string Y) (w5.drewN n) := fun n => by
            have h := conv_row (P := Tryd.prog) 35 5 9 Tryd.underlying35 Tryd.underlying5 Tryd.underlying9 (hrow5.drewN n) (8 * a0.size) cap1 (by rw [← DY.out, toList_length, zY])
            rw [hY] at h
            exact h
          have hll : ((L.length : Int) == L.length) = true := beq_self_eq_true _
          have hcnt : (Lib.countByte Y.data.toList 63 : Int) = Cells.unread Y.data.toList := rfl
          have HCN := Lib.hid hcnt
          clear hY hcnt hcv
          have hq1 : ∀ n, Calls Tryd.prog 24 #[.string Y] (w5.drewN (q + n)) fun e w'' => e = .returned (.int .i64 (Cells.unread Y.data.toList)) ∧ ∃ m, w'' = w5.drewN (q + m) := fun n =>
            (unread_any Y _).mono fun e w' h => ⟨h.1, n, h.2.symm⟩
          have hq2 : ∀ n, Calls Tryd.prog 25 #[.string Y, .string ⟨#[63]⟩] (w5.drewN (q + n)) fun e w'' => e = .returned (.int .i64 (Cells.unread Y.data.toList)) ∧ ∃ m, w'' = w5.drewN (q + m) := fun n =>
            (Tryd.strings_Count_one Y 63 _).mono fun e w' h => ⟨by rw [h.1, HCN.out], n, h.2⟩
          go_wp2_with fail
          go_quiet (first | (go_at_call 24; exact hq1 _) | (go_at_call 25; exact hq2 _))
          go_wp2_with fail
          go_ret
          exact ⟨rfl, below_drewN (below_drewN (bchain hb3 hb6) _) _⟩
end Go.Proofs.YtknppmfnmbkebaaDoor
