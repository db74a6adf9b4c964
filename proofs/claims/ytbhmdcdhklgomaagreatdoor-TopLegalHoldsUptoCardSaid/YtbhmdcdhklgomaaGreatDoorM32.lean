/-
  append of zeros and of strings to bytes; chunkstore.Get.
-/
import Derived.Test.YtbhmdcdhklgomaaGreatDoorM22
import Derived.Test.YtbhmdcdhklgomaaGreatDoorM31
import Derived.Lib.AppendStr
import Derived.Lib.AppendZerosOnto
import Derived.Test.YtbhmdcdhklgomaaGreatDoorM23
import Derived.Test.YtbhmdcdhklgomaaGreatDoorM25
namespace Go.Proofs.YtbhmdcdhklgomaaGreatDoor
open Go.RowKit Top

theorem infoU8t : (Tryz.prog.info? 5).map (fun i => (i.zero, i.size, i.bytes)) = some (some (.int .u8 0), 1, 1) := by kernel_rfl
theorem zeros_list (k : Nat) : Builtin.zeroCells (Value.int .u8 0).cells k = (List.replicate k (Value.int .u8 0)).toArray := by
  apply Array.ext'
  apply List.ext_getElem
  · simp [Builtin.zeroCells, Value.cells]
  · intro i h1 h2
    have hm : i % 1 = 0 := Nat.mod_one i
    simp [Builtin.zeroCells, Value.cells, hm]
theorem zeros_bytes (k : Nat) : List.replicate k (Value.int .u8 0) = bytesL (List.replicate k 0) := by simp [bytesL]

/-- append(b, make([]byte, k)...). -/
theorem run_append_zeros (B : Nat) (ty : TypeId) (w : World) (v : Value) (xs : List Value) (hown : Own w B 5 v xs) (k : Nat) (h0 : 0 < k) (hk : xs.length + k ≤ 16777216) (hB : B ≤ w.heap.size) :
    ∃ v' w', (Builtin.append_ #[77, 3] ty #[v, .int .i64 k]).run Tryz.prog w = .ok v' w' ∧ Own w' B 5 v' (xs ++ List.replicate k (.int .u8 0)) ∧ Below B w w' ∧ w.grownBy w' v.ownBlock := by
  obtain ⟨i, hi, hz, hsize, hby⟩ := info_parts infoU8t
  have hxl : xs.length = xs.length := rfl
  have hlen : (xs ++ List.replicate k (Value.int .u8 0)).length = xs.length + k := by simp
  have fin : ∀ (v' : Value) (w' : World), w'.ownsRow B 5 1 v' (xs.length + k) (xs ++ List.replicate k (.int .u8 0)) ∧ w.grownBy w' v.ownBlock → (Own w' B 5 v' (xs ++ List.replicate k (.int .u8 0)) ∧ Below B w w' ∧ w.grownBy w' v.ownBlock) := by
    intro v' w' h
    refine ⟨?_, (Below.refl B w).grown h.2 hB fun j hj => (World.ownsRow.lt hown j hj).1, h.2⟩
    unfold Own
    rw [hlen]
    exact h.1
  have grown : ∀ (old : Nat), old < xs.length + k → ∀ (row : Option Nat),
      (w.drew.alloc (.cells (xs.toArray ++ Builtin.zeroCells (Value.int .u8 0).cells k ++ Builtin.zeroCells (Value.int .u8 0).cells (grownCap w (xs.length + k) old 5 - (xs.length + k))) 5)).ownsRow B 5 1
        (.slice (some ⟨w.heap.size, 0, none⟩) (xs.length + k) (grownCap w (xs.length + k) old 5)) (xs.length + k) (xs ++ List.replicate k (.int .u8 0)) ∧
      w.grownBy (w.drew.alloc (.cells (xs.toArray ++ Builtin.zeroCells (Value.int .u8 0).cells k ++ Builtin.zeroCells (Value.int .u8 0).cells (grownCap w (xs.length + k) old 5 - (xs.length + k))) 5)) row := by
    intro old ho row
    have hge := grownCap_ge w (xs.length + k) old 5
    have hcm : grownCap w (xs.length + k) old 5 ≤ maxLen := grownCap_le_maxLen w (xs.length + k) old 5 (by unfold maxLen; omega)
    refine ⟨⟨by rw [hlen, Nat.mul_one], .inr ⟨w.heap.size, _, _, rfl, hB, heap_alloc_new w.drew _, hge, hcm, ?_, ?_⟩⟩, ⟨rfl, rfl, rfl, by simp, fun j hj _ => Below.heap_alloc w.drew _ j hj⟩⟩
    · rw [zeros_list, zeros_list]
      simp only [Array.size_append, List.size_toArray, List.length_replicate]
      omega
    · rw [zeros_list, zeros_list]
      simp only [Array.toList_append]
      rw [List.take_append_of_le_length (by simp)]
      exact List.take_of_length_le (by simp)
  rcases hown.2 with ⟨rfl, hn⟩ | ⟨g, cap, cur, rfl, hbg, hg, hnc, hcm, hcs, htake⟩
  · have hx : xs = [] := List.eq_nil_of_length_eq_zero (by omega)
    subst hx
    have hr := Lib.run_append_nil_zeros (P := Tryz.prog) w 77 3 ty 5 i (.int .u8 0) .i64 .i64 Tryz.underlying77 Tryz.underlying3 hi hz k h0 (by omega) (by omega) (by rw [hby]; omega)
    have hgr := grown 0 (by simpa using h0) (Value.ownBlock (.slice none 0 0))
    simp only [List.length_nil, Nat.zero_add, List.nil_append, Array.empty_append] at hgr
    have hf := fin _ _ (by simpa only [List.length_nil, Nat.zero_add, List.nil_append] using hgr)
    exact ⟨_, _, hr, hf⟩
  · by_cases hroom : xs.length + k ≤ cap
    · have hcs' : cur.size = cap := by simpa using hcs
      have hst := run_storeCells_at Tryz.prog g xs.length 5 (List.replicate k (.int .u8 0)) 0 cur w hg (by simpa using by omega) (by intro u hu; rw [List.eq_of_mem_replicate hu]; rfl)
      simp only [Nat.add_zero, List.length_replicate] at hst
      have hw : IntKind.i64.wrap (k : Int) = k := by rw [IntKind.wrap_i64]; omega
      have hneg : ¬ ((k : Int) < 0) := by omega
      have hk0 : k ≠ 0 := by omega
      have h48i : ¬ (281474976710656 < (k : Int)) := by omega
      have hr : (Builtin.append_ #[77, 3] ty #[.slice (some ⟨g, 0, none⟩) xs.length cap, .int .i64 k]).run Tryz.prog w = .ok (.slice (some ⟨g, 0, none⟩) (xs.length + k) cap) (w.setRow g (cur.toList.take xs.length ++ List.replicate k (Value.int .u8 0) ++ cur.toList.drop (xs.length + k)).toArray) := by
        simp [Builtin.append_, run_underlying Tryz.underlying77, run_underlying Tryz.underlying3, sizeOf, typeInfo, zeroValue, hi, hz, hsize, hby, asInt, asIntOf, hw, hneg, hk0, h48i, hroom, zeros_list, Addr.add_lit, hst]
      refine ⟨_, _, hr, fin _ _ ⟨⟨by rw [hlen, Nat.mul_one], .inr ⟨g, cap, _, rfl, hbg, setRow_heap w g cur _ 5 _ hg, hroom, hcm, ?_, ?_⟩⟩, ⟨rfl, rfl, rfl, by simp, fun j _ hj => setRow_other w g j _ (fun e => hj (by simp [Value.ownBlock, e]))⟩⟩⟩
      · simp only [List.size_toArray, List.length_append, List.length_take, List.length_drop, Array.length_toList, List.length_replicate]
        omega
      · have ht' : cur.toList.take xs.length = xs := by simpa using htake
        rw [ht', Nat.mul_one, ← hlen]
        exact List.take_left
    · have holds : ∀ j u, xs[j]? = some u → w.cell? ((⟨g, 0, none⟩ : Addr).add j) = some u := World.ownsRow.cells hown (g := g) rfl
      have hold := run_firstCells_some (P := Tryz.prog) w.drew i.size xs.length ⟨g, 0, none⟩ xs.length cap xs (by rw [hsize]; omega) (by simpa using holds)
      have hr := Lib.run_append_grow_zeros (P := Tryz.prog) w 77 3 ty 5 i (.int .u8 0) .i64 .i64 Tryz.underlying77 Tryz.underlying3 hi hz (some ⟨g, 0, none⟩) xs.length cap xs hold k h0 (by omega) (by omega) (by omega) (by rw [hby]; omega) (by rw [hby]; exact growslice_fits (by omega) (by omega))
      exact ⟨_, _, hr, fin _ _ (grown cap (by omega) _)⟩

theorem strCells_bytes (s : Bs) : Lib.strCells ⟨s.toArray⟩ = bytesL s := rfl
theorem run_append_str (B : Nat) (ty : TypeId) (w : World) (v : Value) (xs : List Value) (hown : Own w B 5 v xs) (U : ByteArray) (hn : xs.length + U.size ≤ 16777216) (hB : B ≤ w.heap.size) :
    ∃ v' w', (Builtin.append_ #[77, 9] ty #[v, .string U]).run Tryz.prog w = .ok v' w' ∧ Own w' B 5 v' (xs ++ Lib.strCells U) ∧ Below B w w' := by
  obtain ⟨i, hi, hz, hsize, hby⟩ := info_parts infoU8t
  obtain ⟨v', w', hr, h2, h3, _⟩ := Lib.run_append_own_string (P := Tryz.prog) w B 77 9 ty 5 i Tryz.underlying77 Tryz.underlying9 hi hz hsize hby v xs.length xs hown U (by unfold maxLen; omega) (by omega) hB
  refine ⟨v', w', hr, ?_, (Below.refl B w).grown h3 hB fun j hj => (World.ownsRow.lt hown j hj).1⟩
  unfold Own
  rw [List.length_append, Lib.strCells_length]
  exact h2
theorem extract_mid (s : Bs) (f m : Nat) : (⟨s.toArray⟩ : ByteArray).extract f (f + m) = ⟨((s.drop f).take m).toArray⟩ := by
  apply ByteArray.ext
  rw [ByteArray.data_extract]
  apply Array.ext'
  simp [List.take_drop]
theorem getGo_cons (ss : List Bs) (out : Bs) (x : Ext) (l : List Ext) : getGo ss out (x :: l) =
    if x.len < 0 ∨ x.off < 0 ∨ x.ses < 0 ∨ (ss.length : Int) < x.ses ∨ (x.ses = 0 ∧ x.off ≠ 0) then ([], 2)
    else if 0 < x.ses ∧ ((((ss.getD (x.ses - 1).toNat []).length : Nat) : Int) < x.off ∨ (((ss.getD (x.ses - 1).toNat []).length : Nat) : Int) - x.off < x.len) then ([], 2)
    else if 65536 - (out.length : Int) < x.len then ([], 6)
    else if x.ses = 0 then getGo ss (out ++ List.replicate x.len.toNat 0) l
    else getGo ss (out ++ ((ss.getD (x.ses - 1).toNat []).drop x.off.toNat).take x.len.toNat) l := rfl

/-- An extent that entry.Check lets pass. -/
def ExtOk (x : Ext) : Prop := 0 ≤ x.ses ∧ x.ses ≤ 255 ∧ 1 ≤ x.len ∧ x.len ≤ 65536 ∧ 0 ≤ x.off ∧ x.off ≤ 2147483647 ∧ (x.ses = 0 → x.off = 0)

set_option maxHeartbeats 4000000 in
set_option maxRecDepth 100000 in
theorem get_any35 (sa : Option Addr) (ns nc : Nat) (ss : List Bs) (ev : Value) (l : List Ext) (w : World) (hs : Strs w sa ns ss) (he : Flat extC 3 w ev l) (hx : ∀ x ∈ l, ExtOk x) (hl : ∀ s ∈ ss, s.length ≤ 140737488355328) (_hns : ns ≤ 65536) :
    Calls Tryz.prog 64 #[.slice sa ns nc, ev] w fun e w' => e = .returned (.tuple #[.string ⟨(getB ss l).1.toArray⟩, .int .i64 (getB ss l).2]) ∧ Below w.heap.size w w' := by
  obtain ⟨ao, cap, rfl, hlc, hcm⟩ := he.form
  have HS := Lib.hid hs
  have HE := Lib.hid he
  have HOK := Lib.hid hx
  have HL := Lib.hid hl
  obtain rfl : ns = ss.length := hs.1
  obtain ⟨res, hres⟩ : ∃ res, getB ss l = res := ⟨_, rfl⟩
  have H0 : Hid (getGo ss [] (l.drop 0) = res) := hres
  rw [hres]
  clear hres hs he hx hl
  go_enter Tryz.func64, Tryz.ntmps64
  go_wp2_with fail
  go_loopw [6, 12] (fun v i wr => ∃ (k : Nat) (out : Bs), k ≤ l.length ∧ i = .int .i64 k ∧ out.length ≤ 65536 ∧ Own wr w.heap.size 5 v (bytesL out) ∧ Hid (getGo ss out (l.drop k) = res) ∧ Below w.heap.size w wr) (fun _ i _ => l.length - (intOf i).toNat)
  case atStart => exact ⟨0, [], Nat.zero_le _, rfl, by simp, Own.nil _ _ _, H0, Below.refl _ _⟩
  case round =>
    obtain ⟨k, out, hk, rfl, hout, hown, hres, hb⟩ := hrel
    have hol := bytesL_length out
    by_cases hlt : k < l.length
    · obtain ⟨x, hx⟩ : ∃ x, l[k]? = some x := ⟨_, List.getElem?_eq_getElem hlt⟩
      obtain ⟨bk, o, rfl, hcell⟩ := (HE.out.below hb).get hx
      have c0 := hcell 0 _ rfl
      have c1 := hcell 1 _ rfl
      have c2 := hcell 2 _ rfl
      rw [Nat.add_zero] at c0
      have hr := hres.out
      rw [drop_at hx, getGo_cons] at hr
      obtain ⟨x1, x2, x3, x4, x5, x6, x7⟩ := HOK.out x (List.mem_of_getElem? hx)
      obtain ⟨V, hV, hbV, hzV, hBk, b0, b1, b2⟩ := xbox2 wr x
      clear hcell hx hBk
      obtain ⟨ses, off, len⟩ := x
      simp only at *
      obtain ⟨oa, oc, rfl, _⟩ := hown.form
      rw [hol] at hown ⊢
      have hbV1 := hb.trans (hbV.mono hb.size)
      have hownV := hown.alloc (.cells #[.int .i64 ses, .int .i64 off, .int .i64 len] 93)
      rw [hV] at hownV
      have HSV := Lib.hid (HS.out.below hbV1)
      by_cases k1 : (ss.length : Int) < ses
      · rw [if_pos (.inr (.inr (.inr (.inl k1))))] at hr
        subst hr
        have k1' : (ss.length : Int) < ses := by omega
        go_upto_region 5 with (fail)
        try rw [hV]
        go_wp2_with fail
        go_ret2
        exact ⟨rfl, hbV1⟩
      rw [if_neg (by rintro (h | h | h | h | ⟨h, h'⟩); omega; omega; omega; omega; exact h' (x7 h))] at hr
      obtain ⟨m, rfl⟩ : ∃ m : Nat, len = m := ⟨len.toNat, by omega⟩
      rw [Int.toNat_natCast] at hr
      by_cases hs0 : ses = 0
      · obtain rfl : off = 0 := x7 hs0
        subst hs0
        rw [if_neg (by omega)] at hr
        by_cases k2 : 65536 - (out.length : Int) < m
        · rw [if_pos k2] at hr
          subst hr
          clear x7
          go_upto_region 5 with (fail)
          try rw [hV]
          go_wp2_with fail
          go_ret2
          exact ⟨rfl, hbV1⟩
        · rw [if_neg k2, if_pos rfl] at hr
          have HR := Lib.hid hr
          clear x7 hr
          obtain ⟨v2, w2, hap, ho2, hb2, _⟩ := run_append_zeros w.heap.size 77 V _ _ hownV m (by omega) (by omega) hbV1.size
          rw [zeros_bytes, bytesL_app] at ho2
          go_upto_region 5 with (fail)
          try rw [hV]
          go_wp2_with (at_builtin; refine Lib.wpList_append_run _ rfl _ _ _ _ rfl _ _ rfl rfl _ _ hap ?_)
          go_roundw
          case rel =>
            exact ⟨k + 1, out ++ List.replicate m 0, by omega, by go_num, by simp; omega, ho2, HR, hbV1.trans hb2⟩
          case measure => simp [intOf]; omega
      · obtain ⟨f, rfl⟩ : ∃ f : Nat, off = f := ⟨off.toNat, by omega⟩
        rw [Int.toNat_natCast] at hr
        obtain ⟨j, rfl⟩ : ∃ j : Nat, ses = (j : Int) + 1 := ⟨(ses - 1).toNat, by omega⟩
        have hj1 : ((j : Int) + 1 - 1).toNat = j := by omega
        rw [hj1] at hr
        have hjs : j < ss.length := by omega
        obtain ⟨s, hsj⟩ : ∃ s, ss[j]? = some s := ⟨_, List.getElem?_eq_getElem hjs⟩
        have hgd : ss.getD j [] = s := by simp [List.getD_eq_getElem?_getD, hsj]
        rw [hgd] at hr
        obtain ⟨sb, so, rfl, sc⟩ := HSV.out.2 j s hsj
        have hsl := HL.out s (List.mem_of_getElem? hsj)
        have hU : (⟨s.toArray⟩ : ByteArray).size = s.length := rfl
        have HM := Lib.hid (extract_mid s f m)
        clear hsj hgd x7
        generalize hUU : (⟨s.toArray⟩ : ByteArray) = U at *
        have q0 : ((j : Int)) < ss.length := by omega
        have q1 : IntKind.i64.wrap (j : Int) = j := by rw [IntKind.wrap_i64]; omega
        have q2 : (0 : Int) < (j : Int) + 1 := by omega
        by_cases k3 : 0 < (j : Int) + 1 ∧ ((s.length : Int) < f ∨ (s.length : Int) - f < m)
        · rw [if_pos k3] at hr
          subst hr
          by_cases k4 : (U.size : Int) < f
          · go_upto_region 5 with (fail)
            try rw [hV]
            go_wp2_with fail
            go_ret2
            exact ⟨rfl, hbV1⟩
          · have k5 : (U.size : Int) - f < m := by omega
            go_upto_region 5 with (fail)
            try rw [hV]
            go_wp2_with fail
            go_ret2
            exact ⟨rfl, hbV1⟩
        rw [if_neg k3] at hr
        have k4 : ¬ (U.size : Int) < f := by omega
        have k5 : ¬ (U.size : Int) - f < m := by omega
        clear k3
        by_cases k2 : 65536 - (out.length : Int) < m
        · rw [if_pos k2] at hr
          subst hr
          go_upto_region 5 with (fail)
          try rw [hV]
          go_wp2_with fail
          go_ret2
          exact ⟨rfl, hbV1⟩
        · rw [if_neg k2, if_neg hs0] at hr
          have HR := Lib.hid hr
          clear hr
          go_upto_region 5 with (fail)
          try rw [hV]
          go_wp2_with fail
          have q3 : (0 : Int) ≤ (j : Int) := by omega
          have q4 : IntKind.i64.wrap ((f : Int) + m) = (f : Int) + m := by rw [IntKind.wrap_i64]; omega
          have q5 : (0 : Int) ≤ (f : Int) := by omega
          have q6 : (f : Int) ≤ (f : Int) + m := by omega
          have q7 : (f : Int) + m ≤ (s.length : Int) := by omega
          have q9 : (0 : Int) ≤ (f : Int) + m := by omega
          have q8 : ((f : Int) + m).toNat = f + m := by omega
          have hUs : (U.extract f (f + m)).size = m := by rw [ByteArray.size_extract]; omega
          have HUS := Lib.hid hUs
          have HOL := Lib.hid hol
          clear hUs hol
          refine wp_region_quiet_tail 15 (by kernel_rfl) (by kernel_rfl) ?_
          simp only [List.take_succ_cons, List.take_zero, List.drop_succ_cons, List.drop_zero]
          repeat (go_big_quiet_step (fail))
          refine wpQuiet_nil ?_
          rintro _ ⟨nq, rfl⟩
          have hownQ : Own (V.drewN nq) w.heap.size 5 (.slice oa out.length oc) (bytesL out) := hownV
          have hbQ := below_drewN hbV1 nq
          obtain ⟨v2, w2, hap, ho2, hb2⟩ := run_append_str w.heap.size 77 (V.drewN nq) _ _ hownQ (U.extract f (f + m)) (by rw [HUS.out, HOL.out]; omega) hbQ.size
          rw [HM.out, strCells_bytes, bytesL_app] at ho2
          go_wp2_with (at_builtin; refine Lib.wpList_append_run _ rfl _ _ _ _ rfl _ _ rfl rfl _ _ hap ?_)
          go_roundw
          case rel =>
            exact ⟨k + 1, out ++ (s.drop f).take m, by omega, by go_num, by simp; omega, ho2, HR, hbQ.trans hb2⟩
          case measure => simp [intOf]; omega
    · obtain rfl : k = l.length := by omega
      have hr := hres.out
      rw [List.drop_length] at hr
      have hr : (out, (0 : Int)) = res := hr
      subst hr
      obtain ⟨oa, oc, rfl, _⟩ := hown.form
      rw [hol] at hown ⊢
      have hcv := conv_own 77 5 9 Tryz.underlying77 Tryz.underlying5 Tryz.underlying9 hown
      go_wp2_with fail
      go_ret2
      exact ⟨rfl, hb⟩
end Go.Proofs.YtbhmdcdhklgomaaGreatDoor

/-
  What results from sessions: bounds. No program.
-/
namespace Go.Proofs.YtbhmdcdhklgomaaGreatDoor
open Go.RowKit Top

theorem getGo_len (ss : List Bs) : ∀ (l : List Ext) (out : Bs), out.length ≤ 65536 → (getGo ss out l).1.length ≤ 65536
  | [], out, h => h
  | x :: l, out, h => by
    rw [getGo_cons]
    split
    · exact Nat.zero_le _
    · split
      · exact Nat.zero_le _
      · split
        · exact Nat.zero_le _
        · rename_i h3
          split
          · refine getGo_len ss l _ ?_
            rw [List.length_append, List.length_replicate]
            omega
          · refine getGo_len ss l _ ?_
            rw [List.length_append, List.length_take]
            omega
theorem getB_len (ss : List Bs) (l : List Ext) : (getB ss l).1.length ≤ 65536 := getGo_len ss l [] (Nat.zero_le _)
theorem exts_ok {e : Ent} (h : entErr e = 0) : ∀ x ∈ e.exts, ExtOk x := by
  have hc : contentErr e = 0 := by
    unfold entErr at h
    split at h
    · cases h
    · split at h
      · rename_i h1; exact absurd h h1
      · split at h
        · cases h
        · split at h
          · rename_i h1; exact absurd h h1
          · split at h
            · cases h
            · exact h
  intro x hx
  have hb : e.exts.any extBad = false := by
    unfold contentErr at hc
    generalize (if e.kind = 1 then (65536 : Int) else 0) = K at hc
    generalize (if e.kind = 1 then 32 else 0) = K2 at hc
    split at hc
    · cases hc
    · split at hc
      · cases hc
      · split at hc
        · cases hc
        · split at hc
          · cases hc
          · rename_i h5
            simpa using h5
  have hx2 : extBad x = false := by
    rw [List.any_eq_false] at hb
    simpa using hb x hx
  unfold extBad at hx2
  simp only [Bool.or_eq_false_iff, decide_eq_false_iff_not, Bool.and_eq_false_imp, beq_iff_eq, bne_eq_false_iff_eq] at hx2
  obtain ⟨⟨⟨⟨⟨⟨h1, h2⟩, h3⟩, h4⟩, h5⟩, h6⟩, h7⟩ := hx2
  exact ⟨by omega, by omega, by omega, by omega, by omega, by omega, h7⟩
theorem insAt_size {α : Type} (l : List α) (i : Nat) (x : α) : (insAt l i x).length = l.length + 1 := by
  unfold insAt
  simp only [List.length_append, List.length_cons, List.length_take, List.length_drop]
  omega
theorem applyT_ok {t : List Ent} {e : Ent} (h : t.length ≤ 5000) (hp : FitP t) (he : e.path.length ≤ 16777216) : (applyT t e).2.length ≤ 5000 ∧ FitP (applyT t e).2 := by
  unfold applyT
  split
  · exact ⟨Nat.zero_le _, fun x hx => (List.not_mem_nil hx).elim⟩
  · split
    · split
      · exact ⟨Nat.zero_le _, fun x hx => (List.not_mem_nil hx).elim⟩
      · exact ⟨Nat.le_trans (List.length_filter_le _ _) h, fun x hx => hp x (List.mem_filter.1 hx).1⟩
    · split
      · exact ⟨Nat.zero_le _, fun x hx => (List.not_mem_nil hx).elim⟩
      · split
        · split
          · exact ⟨Nat.zero_le _, fun x hx => (List.not_mem_nil hx).elim⟩
          · refine ⟨by simpa using h, fun x hx => ?_⟩
            rcases List.mem_or_eq_of_mem_set hx with h1 | rfl
            · exact hp x h1
            · exact he
        · split
          · exact ⟨Nat.zero_le _, fun x hx => (List.not_mem_nil hx).elim⟩
          · rename_i h5
            refine ⟨by show (insAt _ _ _).length ≤ _; rw [insAt_size]; omega, fun x hx => ?_⟩
            rcases insAt_mem.1 hx with rfl | h1
            · exact he
            · exact hp x h1
theorem active_ok {l : List Hold} {d : Int} (hf : FitH l) : (active l d).length ≤ l.length ∧ FitH (active l d) :=
  ⟨List.length_filter_le _ _, fun x hx => hf x (List.mem_filter.1 hx).1⟩
theorem applyH_ok {l : List Hold} {e : Ent} {d : Int} (hf : FitH l) (he : e.path.length ≤ 16777216) : (applyH l e d).2.length ≤ l.length + 1 ∧ FitH (applyH l e d).2 := by
  have ha := active_ok (d := d) hf
  have ho : (others (active l d) e.path).length ≤ l.length ∧ FitH (others (active l d) e.path) := ⟨Nat.le_trans (List.length_filter_le _ _) ha.1, fun x hx => ha.2 x (List.mem_filter.1 hx).1⟩
  unfold applyH
  split
  · split
    · exact ⟨Nat.zero_le _, fun x hx => (List.not_mem_nil hx).elim⟩
    · refine ⟨by show (insAt _ _ _).length ≤ _; rw [insAt_size]; omega, fun x hx => ?_⟩
      rcases insAt_mem.1 hx with rfl | h1
      · exact he
      · exact ho.2 x h1
  · split
    · split
      · exact ⟨Nat.zero_le _, fun x hx => (List.not_mem_nil hx).elim⟩
      · exact ⟨by show (others _ _).length ≤ _; omega, ho.2⟩
    · exact ⟨by show (active _ _).length ≤ _; omega, ha.2⟩
structure RepOk (n : Nat) (d : Rep) : Prop where
  store : StoOk (n * 200000) d.store
  tree : d.tree.length ≤ 5000
  paths : FitP d.tree
  holds : d.holds.length ≤ n
  fits : FitH d.holds
theorem store0_ok (N : Nat) : StoOk N store0 := ⟨Nat.zero_le _, Nat.zero_le _, fun _ hc => (List.not_mem_nil hc).elim⟩
theorem rep0_ok : RepOk 0 rep0 := ⟨store0_ok _, Nat.zero_le _, fun _ hx => (List.not_mem_nil hx).elim, Nat.le_refl _, fun _ hx => (List.not_mem_nil hx).elim⟩
theorem RepOk.mono {n m : Nat} {d : Rep} (h : RepOk n d) (hm : n ≤ m) : RepOk m d := ⟨h.store.mono (Nat.mul_le_mul_right _ hm), h.tree, h.paths, Nat.le_trans h.holds hm, h.fits⟩
theorem repE_ok {n : Nat} {d : Rep} (h : RepOk n d) (ss : List Bs) (date : Int) {e : Ent} (he : entErr e = 0) : RepOk (n + 1) (repE ss date d e) := by
  have hp : e.path.length ≤ 16777216 := by have := (valid he).path; omega
  refine ⟨?_, ?_, ?_, ?_, ?_⟩
  · show StoOk _ (if e.kind = 1 then _ else _)
    split
    · have := put_ok h.store (getB ss e.exts).1
      rw [show (n + 1) * 200000 = n * 200000 + 200000 by omega]
      exact this
    · exact h.store.mono (by omega)
  · show (if _ then _ else _ : List Ent).length ≤ _
    split
    · exact (applyT_ok h.tree h.paths hp).1
    · exact h.tree
  · show FitP (if _ then _ else _ : List Ent)
    split
    · exact (applyT_ok h.tree h.paths hp).2
    · exact h.paths
  · show (if _ then _ else _ : List Hold).length ≤ _
    have := h.holds
    split
    · exact Nat.le_trans (applyH_ok h.fits hp).1 (by omega)
    · omega
  · show FitH (if _ then _ else _ : List Hold)
    split
    · exact (applyH_ok h.fits hp).2
    · exact h.fits
theorem repEs_ok (ss : List Bs) (date : Int) : ∀ (l : List Ent) {n : Nat} {d : Rep}, RepOk n d → (∀ e ∈ l, entErr e = 0) → RepOk (n + l.length) (l.foldl (repE ss date) d)
  | [], _, _, h, _ => h
  | e :: l, n, d, h, hl => by
    have := repEs_ok ss date l (repE_ok h ss date (hl e (by simp))) (fun x hx => hl x (by simp [hx]))
    rw [List.foldl_cons, List.length_cons, show n + (l.length + 1) = n + 1 + l.length by omega]
    exact this
def count (l : List Ses) : Nat := (l.map fun s => s.entries.length).sum
theorem repS_ok {n : Nat} {d : Rep} (h : RepOk n d) (ss : List Bs) {s : Ses} (hs : ∀ e ∈ s.entries, entErr e = 0) : RepOk (n + s.entries.length) (repS ss d s) :=
  repEs_ok ss s.date s.entries ⟨begin_ok h.store _, h.tree, h.paths, h.holds, h.fits⟩ hs
theorem repGo_ok : ∀ (l : List Ses) (ss : List Bs) {n : Nat} {d : Rep}, RepOk n d → (∀ s ∈ l, ∀ e ∈ s.entries, entErr e = 0) → RepOk (n + count l) (repGo ss d l)
  | [], _, _, _, h, _ => h
  | s :: l, ss, n, d, h, hl => by
    have := repGo_ok l (ss ++ [s.stream]) (repS_ok h (ss ++ [s.stream]) (hl s (by simp))) (fun x hx => hl x (by simp [hx]))
    unfold count
    rw [List.map_cons, List.sum_cons, ← Nat.add_assoc]
    exact this
theorem replay_ok {l : List Ses} (h : ∀ s ∈ l, ∀ e ∈ s.entries, entErr e = 0) : RepOk (count l) (replay l) := by
  have := repGo_ok l [] rep0_ok h
  rwa [Nat.zero_add] at this
/-- The state in the middle of the sessions. -/
def repK (l : List Ses) (k : Nat) : Rep := repGo [] rep0 (l.take k)
theorem repGo_app : ∀ (a : List Ses) (ss : List Bs) (d : Rep) (b : List Ses), repGo ss d (a ++ b) = repGo (ss ++ a.map (·.stream)) (repGo ss d a) b
  | [], ss, d, b => by simp [repGo]
  | s :: a, ss, d, b => by
    have := repGo_app a (ss ++ [s.stream]) (repS (ss ++ [s.stream]) d s) b
    show repGo (ss ++ [s.stream]) _ (a ++ b) = _
    rw [this]
    simp [repGo]
theorem repK_succ {l : List Ses} {k : Nat} {s : Ses} (h : l[k]? = some s) : repK l (k + 1) = repS ((l.take k).map (·.stream) ++ [s.stream]) (repK l k) s := by
  unfold repK
  rw [List.take_add_one, h, Option.toList_some, repGo_app, List.nil_append]
  rfl
end Go.Proofs.YtbhmdcdhklgomaaGreatDoor

/-
  history.entries and its iterator.
-/
namespace Go.Proofs.YtbhmdcdhklgomaaGreatDoor
open Go.RowKit Go.Shelf Top

/-- What the iterator yields: a session and an entry, each with its place. -/
abbrev IT := Nat × Nat × Ses × Ent
def entsE (k : Nat) (s : Ses) : Nat → List Ent → List IT
  | _, [] => []
  | m, e :: r => (k, m, s, e) :: entsE k s (m + 1) r
def listE : Nat → List Ses → List IT
  | _, [] => []
  | k, s :: l => entsE k s 0 s.entries ++ listE (k + 1) l
theorem entsE_map (k : Nat) (s : Ses) : ∀ (l : List Ent) (m : Nat), (entsE k s m l).map (fun x => (x.2.2.1.date, x.2.2.2)) = l.map fun e => (s.date, e)
  | [], _ => rfl
  | e :: l, m => by rw [entsE, List.map_cons, List.map_cons, entsE_map k s l]
theorem listE_map : ∀ (l : List Ses) (k : Nat), (listE k l).map (fun x => (x.2.2.1.date, x.2.2.2)) = entriesOf l
  | [], _ => rfl
  | s :: l, k => by
    rw [listE, List.map_append, entsE_map, listE_map l]
    rfl
theorem entsE_mem (k : Nat) (s : Ses) : ∀ (l : List Ent) (m : Nat) (x : IT), x ∈ entsE k s m l → x.1 = k ∧ x.2.2.1 = s ∧ ∃ j, x.2.1 = m + j ∧ l[j]? = some x.2.2.2
  | [], _, x, h => (List.not_mem_nil h).elim
  | e :: l, m, x, h => by
    rcases List.mem_cons.1 h with rfl | h
    · exact ⟨rfl, rfl, 0, rfl, rfl⟩
    · obtain ⟨h1, h2, j, h3, h4⟩ := entsE_mem k s l (m + 1) x h
      exact ⟨h1, h2, j + 1, by omega, h4⟩
theorem listE_mem : ∀ (l : List Ses) (k : Nat) (x : IT), x ∈ listE k l → ∃ i, x.1 = k + i ∧ l[i]? = some x.2.2.1 ∧ x.2.2.1.entries[x.2.1]? = some x.2.2.2
  | [], _, x, h => (List.not_mem_nil h).elim
  | s :: l, k, x, h => by
    rcases List.mem_append.1 h with h | h
    · obtain ⟨h1, h2, j, h3, h4⟩ := entsE_mem k s _ 0 x h
      refine ⟨0, h1, by rw [h2]; rfl, ?_⟩
      rw [h3, Nat.zero_add, h2]
      exact h4
    · obtain ⟨i, h1, h2, h3⟩ := listE_mem l (k + 1) x h
      exact ⟨i + 1, by omega, h2, h3⟩
/-- The headers of the slices. -/
structure Hdr where
  ea : Nat → Option Addr × Nat
  en : Nat × Nat → (Option Addr × Nat) × (Option Addr × Nat)
def sesW (f : Hdr) (k : Nat) (s : Ses) : Value := .agg #[.int .i64 s.num, .int .i64 s.date, .string ⟨s.prev.toArray⟩, .slice (f.ea k).1 s.entries.length (f.ea k).2, .string ⟨s.stream.toArray⟩, .string ⟨s.sign.toArray⟩]
def entW (f : Hdr) (k m : Nat) (e : Ent) : Value := .agg #[.int .i64 e.kind, .string ⟨e.path.toArray⟩, .slice (f.en (k, m)).1.1 e.attrs.length (f.en (k, m)).1.2, .string ⟨e.target.toArray⟩, .int .i64 e.size, .string ⟨e.digest.toArray⟩, .slice (f.en (k, m)).2.1 e.exts.length (f.en (k, m)).2.2]
def encW (f : Hdr) (x : IT) : Array Value := #[sesW f x.1 x.2.2.1, entW f x.1 x.2.1 x.2.2.2]
def SesAt (w : World) (ao : Option Addr) (f : Hdr) (k : Nat) (s : Ses) : Prop := ∃ bk o, ao = some ⟨bk, o, none⟩ ∧ Ents w (.slice (f.ea k).1 s.entries.length (f.ea k).2) s.entries ∧
    w.cell? ⟨bk, o + k * 6, none⟩ = some (.int .i64 s.num) ∧ w.cell? ⟨bk, o + k * 6 + 1, none⟩ = some (.int .i64 s.date) ∧ w.cell? ⟨bk, o + k * 6 + 2, none⟩ = some (.string ⟨s.prev.toArray⟩) ∧ w.cell? ⟨bk, o + k * 6 + 3, none⟩ = some (.slice (f.ea k).1 s.entries.length (f.ea k).2) ∧
    w.cell? ⟨bk, o + k * 6 + 4, none⟩ = some (.string ⟨s.stream.toArray⟩) ∧ w.cell? ⟨bk, o + k * 6 + 5, none⟩ = some (.string ⟨s.sign.toArray⟩)
def EntAt (w : World) (f : Hdr) (k m : Nat) (e : Ent) : Prop := ∃ bk o, (f.ea k).1 = some ⟨bk, o, none⟩ ∧ Flat attrC 2 w (.slice (f.en (k, m)).1.1 e.attrs.length (f.en (k, m)).1.2) e.attrs ∧ Flat extC 3 w (.slice (f.en (k, m)).2.1 e.exts.length (f.en (k, m)).2.2) e.exts ∧
    w.cell? ⟨bk, o + m * 7, none⟩ = some (.int .i64 e.kind) ∧ w.cell? ⟨bk, o + m * 7 + 1, none⟩ = some (.string ⟨e.path.toArray⟩) ∧ w.cell? ⟨bk, o + m * 7 + 2, none⟩ = some (.slice (f.en (k, m)).1.1 e.attrs.length (f.en (k, m)).1.2) ∧ w.cell? ⟨bk, o + m * 7 + 3, none⟩ = some (.string ⟨e.target.toArray⟩) ∧
    w.cell? ⟨bk, o + m * 7 + 4, none⟩ = some (.int .i64 e.size) ∧ w.cell? ⟨bk, o + m * 7 + 5, none⟩ = some (.string ⟨e.digest.toArray⟩) ∧ w.cell? ⟨bk, o + m * 7 + 6, none⟩ = some (.slice (f.en (k, m)).2.1 e.exts.length (f.en (k, m)).2.2)
theorem hdr_of {w : World} {ao : Option Addr} {n cap : Nat} {l : List Ses} (h : Sess w (.slice ao n cap) l) : ∃ f : Hdr, (∀ k s, l[k]? = some s → SesAt w ao f k s) ∧ ∀ k s m e, l[k]? = some s → s.entries[m]? = some e → EntAt w f k m e := by
  have h1 : ∀ k, ∃ t : Option Addr × Nat, ∀ s, l[k]? = some s → SesAt w ao ⟨fun _ => t, fun _ => ((none, 0), (none, 0))⟩ k s := fun k => by
    cases hk : l[k]? with
    | none => exact ⟨(none, 0), fun s hs => by cases hs⟩
    | some s =>
      obtain ⟨bk, o, ea, ec, g1, g2, g3⟩ := h.get hk
      refine ⟨(ea, ec), fun s' hs' => ?_⟩
      injection hs' with hs'
      subst hs'
      exact ⟨bk, o, g1, g2, g3⟩
  obtain ⟨f, hf⟩ := Classical.skolem.1 h1
  have h2 : ∀ km : Nat × Nat, ∃ t : (Option Addr × Nat) × (Option Addr × Nat), ∀ s e, l[km.1]? = some s → s.entries[km.2]? = some e → EntAt w ⟨f, fun _ => t⟩ km.1 km.2 e := fun km => by
    cases hk : l[km.1]? with
    | none => exact ⟨((none, 0), (none, 0)), fun s e hs => by cases hs⟩
    | some s =>
      obtain ⟨_, _, _, g2, _⟩ := hf km.1 s hk
      cases hm : s.entries[km.2]? with
      | none => exact ⟨((none, 0), (none, 0)), fun s' e hs he => by
          injection hs with hs
          subst hs
          rw [hm] at he
          cases he⟩
      | some e =>
        obtain ⟨bk, o, aa, ac, ea, ec, k1, k2, k3, k4⟩ := g2.get hm
        refine ⟨((aa, ac), (ea, ec)), fun s' e' hs he => ?_⟩
        injection hs with hs
        subst hs
        rw [hm] at he
        injection he with he
        subst he
        exact ⟨bk, o, k1, k2, k3, k4⟩
  obtain ⟨g, hg⟩ := Classical.skolem.1 h2
  refine ⟨⟨f, g⟩, fun k s hs => hf k s hs, fun k s m e hs he => hg (k, m) s e hs he⟩
theorem entries_any (w : World) (sa : Option Addr) (n c : Nat) :
    Calls Tryz.prog 50 #[.slice sa n c] w fun e w' => e = .returned (.func (.func 87) #[] #[.pointer (some ⟨w.heap.size, 0, none⟩)]) ∧ w' = w.alloc (.cells #[.slice sa n c] 28) := by
  go_enter Tryz.func50, Tryz.ntmps50
  go_wp2_with fail
  go_ret
  exact ⟨rfl, rfl⟩
/-- What a round keeps: every block of cells but b. -/
def KeptC (b : Nat) (W W' : World) : Prop := W.heap.size ≤ W'.heap.size ∧ ∀ (j : Nat) (o : Obj), W.heap[j]? = some o → o.isCells = true → j ≠ b → W'.heap[j]? = some o
theorem KeptC.refl (b : Nat) (W : World) : KeptC b W W := ⟨Nat.le_refl _, fun _ _ h _ _ => h⟩
theorem KeptC.trans {b : Nat} {A B C : World} (h : KeptC b A B) (k : KeptC b B C) : KeptC b A C := ⟨Nat.le_trans h.1 k.1, fun j o hj hc hb => k.2 j o (h.2 j o hj hc hb) hc hb⟩
theorem KeptC.of_below {b : Nat} {W W' : World} (h : Below W.heap.size W W') : KeptC b W W' := ⟨h.size, fun j _ hj _ _ => (h.block j (Array.getElem?_eq_some_iff.1 hj).1).trans hj⟩
theorem KeptC.of_grown {b : Nat} {W W' : World} (h : W.grownBy W' (some b)) : KeptC b W W' := ⟨h.size, fun j _ hj _ hb => (h.block j (Array.getElem?_eq_some_iff.1 hj).1 (fun e => hb (by injection e))).trans hj⟩
theorem cells_of_cell {w : World} {p : Addr} {u : Value} (h : w.cell? p = some u) : ∃ o, w.heap[p.block]? = some o ∧ o.isCells = true := by
  unfold World.cell? at h
  split at h
  · rename_i hb
    exact ⟨_, hb, rfl⟩
  · cases h
theorem KeptC.cell {b : Nat} {W W' : World} (h : KeptC b W W') {p : Addr} {u : Value} (hp : W.cell? p = some u) (hb : p.block ≠ b) : W'.cell? p = some u := by
  obtain ⟨o, h1, h2⟩ := cells_of_cell hp
  exact (World.cell?_of_block ((h.2 _ _ h1 h2 hb).trans h1.symm)).trans hp
theorem keptC_b {b : Nat} (W : World) (l : Nat) (o o' : Obj) (h : W.heap[l]? = some o) (hc : o.isCells = false) : KeptC b W (W.putObj l o') :=
  ⟨(grownBy_putObj' W l o').size, fun j oj hj hjc _ => by
    have hne : j ≠ l := by
      rintro rfl
      rw [h] at hj
      injection hj with hj
      subst hj
      rw [hc] at hjc
      cases hjc
    exact ((grownBy_putObj' W l o').block j (Array.getElem?_eq_some_iff.1 hj).1 (fun e => hne (by injection e))).trans hj⟩
/-- The contract of an iterator that writes nothing. -/
def SeqNB {α : Type} (F : Fence) (n : Nat) (P : Program) (g : Nat) (lb : Array Value) (encs : α → Array Value) (Kp : World → World → Prop) (xs : List α) (w : World) : Prop :=
  ∀ (l : Nat) (J : List α → World → Prop) (W : World), Below w.heap.size w W → AbidesFrom W.heap.size J →
    (∀ pre x rest W1, xs = pre ++ x :: rest → J pre W1 → YieldAt F (n - 1) P l (encs x) W1 fun e W' => e = .returned (.bool true) ∧ J (pre ++ [x]) W' ∧ Kp W1 W') →
    J [] W →
    CallsIn F n P g (#[.func (.yield l) #[] #[]] ++ lb) W fun e W' => (∃ v, e = .returned v) ∧ J xs W'
end Go.Proofs.YtbhmdcdhklgomaaGreatDoor
