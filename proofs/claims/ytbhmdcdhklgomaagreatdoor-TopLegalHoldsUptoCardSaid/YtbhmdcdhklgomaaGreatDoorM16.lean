/-
  retention.Apply.
-/
import Derived.Test.YtbhmdcdhklgomaaGreatDoorM15
import Derived.Lib.MinMax
import Derived.Test.YtbhmdcdhklgomaaGreatDoorM14
namespace Go.Proofs.YtbhmdcdhklgomaaGreatDoor
open Go.RowKit Top

set_option maxHeartbeats 1000000 in
theorem happ1_any (h : Hold) (P : List UInt8) (eb : Nat) (w : World) (hp : w.cell? ⟨eb, 1, none⟩ = some (.string ⟨P.toArray⟩)) :
    Calls Tryz.prog 101 #[.agg #[.string ⟨h.path.toArray⟩, .int .i64 h.till], .pointer (some ⟨eb, 0, none⟩)] w fun e w' => e = .returned (.bool (h.path != P)) ∧ Below w.heap.size w w' := by
  obtain ⟨W, hW, hbW, hzW, d0, d1⟩ := hbox w h
  have hp := (hbW.cell (p := ⟨eb, 1, none⟩) (World.block_lt_of_cell? _ _ hp)).trans hp
  have hq : ((⟨h.path.toArray⟩ : ByteArray).toList != (⟨P.toArray⟩ : ByteArray).toList) = (h.path != P) := by rw [Lib.toList_data, Lib.toList_data]
  rw [← hq]
  clear hq
  generalize (⟨P.toArray⟩ : ByteArray) = U at *
  generalize (⟨h.path.toArray⟩ : ByteArray) = V at *
  go_enter Tryz.func101, Tryz.ntmps101
  go_wp2_with fail
  go_ret
  exact ⟨rfl, hbW⟩
set_option maxHeartbeats 1000000 in
theorem happ2_any (h : Hold) (P : List UInt8) (eb : Nat) (w : World) (hp : w.cell? ⟨eb, 1, none⟩ = some (.string ⟨P.toArray⟩)) (h1 : h.path.length ≤ 16777216) (h2 : P.length ≤ 16777216) :
    Calls Tryz.prog 103 #[.agg #[.string ⟨h.path.toArray⟩, .int .i64 h.till], .pointer (some ⟨eb, 0, none⟩)] w fun e w' => e = .returned (.bool (decide (0 < Path.cmp h.path P))) ∧ Below w.heap.size w w' := by
  obtain ⟨W, hW, hbW, hzW, d0, d1⟩ := hbox w h
  have hp := (hbW.cell (p := ⟨eb, 1, none⟩) (World.block_lt_of_cell? _ _ hp)).trans hp
  have HC := Lib.hid (fun X => pcompare_any ⟨h.path.toArray⟩ ⟨P.toArray⟩ X (by show h.path.length < _; omega) (by show P.length < _; omega))
  have hc : Path.cmp (⟨h.path.toArray⟩ : ByteArray).data.toList (⟨P.toArray⟩ : ByteArray).data.toList = Path.cmp h.path P := rfl
  rw [hc] at HC
  clear hc h1 h2
  generalize (⟨P.toArray⟩ : ByteArray) = U at *
  generalize (⟨h.path.toArray⟩ : ByteArray) = V at *
  go_enter Tryz.func103, Tryz.ntmps103
  go_wp2_with fail
  refine (HC.out _).mono ?_
  rintro e w' ⟨rfl, hb⟩
  go_wp2_with fail
  go_ret
  exact ⟨rfl, hbW.trans (hb.mono hbW.size)⟩
theorem active_len (l : List Hold) (d : Int) : (active l d).length ≤ l.length := List.length_filter_le _ _
theorem others_len (l : List Hold) (p : Bs) : (others l p).length ≤ l.length := List.length_filter_le _ _
theorem FitH.others {l : List Hold} (h : FitH l) (p : Bs) : FitH (others l p) := fun x hx => h x (List.mem_filter.1 hx).1

/-- What Apply leads to. -/
def HPost (l : List Hold) (e : Ent) (d : Int) (w : World) (en : Ending) (w' : World) : Prop := ∃ v, en = .returned (.tuple #[v, .int .i64 (applyH l e d).1]) ∧ Holds w' v (applyH l e d).2 ∧ Below w.heap.size w w'

set_option maxHeartbeats 4000000 in
set_option maxRecDepth 100000 in
theorem happly_no (hv v : Value) (l : List Hold) (e : Ent) (d : Int) (w : World) (hl : Holds w hv l) (hn : l.length ≤ 65536) (hev : EntV w v e) (h5 : e.kind ≠ 5) :
    Calls Tryz.prog 61 #[hv, v, .int .i64 d] w (HPost l e d w) := by
  obtain ⟨aa, ac, ea, ec, rfl, _, _⟩ := hev
  obtain ⟨W, hW, hbW, hzW, d0, d1, d2, d3, d4, d5, d6⟩ := ebox w e (.slice aa e.attrs.length ac) (.slice ea e.exts.length ec)
  have hlw : w.heap.size < W.heap.size := by omega
  have HA := Lib.hid (active_any hv l d W (hl.below hbW) (by omega))
  have hal := active_len l d
  have HS := Lib.hid (fun (v : Value) (X : World) (hX : Below W.heap.size W X) (hv : Holds X v (active l d)) =>
    selected_any 101 (enters_of Tryz.func101 (by kernel_rfl) rfl) (.pointer (some ⟨w.heap.size, 0, none⟩)) (fun h => h.path != e.path) v (active l d) X hv (by omega) (fun Y h hY => happ1_any h e.path w.heap.size Y ((hY.cell (p := ⟨w.heap.size, 1, none⟩) (Nat.lt_of_lt_of_le hlw hX.size)).trans ((hX.cell (p := ⟨w.heap.size, 1, none⟩) hlw).trans d1))))
  have ho : ((active l d).filter fun h => h.path != e.path) = others (active l d) e.path := rfl
  rw [ho] at HS
  by_cases h6 : e.kind = 6
  · by_cases hlen : (others (active l d) e.path).length = (active l d).length
    · have hr : applyH l e d = (9, []) := by unfold applyH; rw [if_neg h5, if_pos h6, if_pos hlen]
      have HR := Lib.hid hr
      have hq : (((others (active l d) e.path).length : Int) == ((active l d).length : Int)) = true := by rw [hlen]; simp
      rw [h6] at d0 hW ⊢
      generalize others (active l d) e.path = os at *
      generalize active l d = bs at *
      clear hl hal ho hr h5 h6 hlen hn
      go_enter Tryz.func61, Tryz.ntmps61
      go_wp2_with fail
      refine HA.out.mono ?_
      rintro en w1 ⟨v1, rfl, ho1, hb1⟩
      have HC := Lib.hid (HS.out v1 w1 hb1 (ho1.flat holdC_len))
      obtain ⟨a1, c1, rfl, _, _⟩ := ho1.form
      have d0 := (hb1.cell (p := ⟨w.heap.size, 0, none⟩) hlw).trans d0
      clear ho1
      go_wp2_with fail
      refine HC.out.mono ?_
      rintro en w2 ⟨v2, rfl, ho2, hb2⟩
      obtain ⟨a2, c2, rfl, _, _⟩ := ho2.form
      have d0 := (hb2.cell (p := ⟨w.heap.size, 0, none⟩) (Nat.lt_of_lt_of_le hlw hb1.size)).trans d0
      clear ho2
      go_wp2_with fail
      go_ret2
      unfold HPost
      rw [HR.out]
      exact ⟨_, rfl, Flat.nil _ _ _, hbW.trans ((hb1.trans (hb2.mono hb1.size)).mono hbW.size)⟩
    · have hr : applyH l e d = (0, others (active l d) e.path) := by unfold applyH; rw [if_neg h5, if_pos h6, if_neg hlen]
      have HR := Lib.hid hr
      have hq : (((others (active l d) e.path).length : Int) == ((active l d).length : Int)) = false := beq_eq_false_iff_ne.2 (by omega)
      rw [h6] at d0 hW ⊢
      generalize others (active l d) e.path = os at *
      generalize active l d = bs at *
      clear hl hal ho hr h5 h6 hlen hn
      go_enter Tryz.func61, Tryz.ntmps61
      go_wp2_with fail
      refine HA.out.mono ?_
      rintro en w1 ⟨v1, rfl, ho1, hb1⟩
      have HC := Lib.hid (HS.out v1 w1 hb1 (ho1.flat holdC_len))
      obtain ⟨a1, c1, rfl, _, _⟩ := ho1.form
      have d0 := (hb1.cell (p := ⟨w.heap.size, 0, none⟩) hlw).trans d0
      clear ho1
      go_wp2_with fail
      refine HC.out.mono ?_
      rintro en w2 ⟨v2, rfl, ho2, hb2⟩
      obtain ⟨a2, c2, rfl, _, _⟩ := ho2.form
      have d0 := (hb2.cell (p := ⟨w.heap.size, 0, none⟩) (Nat.lt_of_lt_of_le hlw hb1.size)).trans d0
      have HO := Lib.hid (ho2.flat holdC_len)
      clear ho2
      go_wp2_with fail
      go_ret2
      unfold HPost
      rw [HR.out]
      exact ⟨_, rfl, HO.out, hbW.trans ((hb1.trans (hb2.mono hb1.size)).mono hbW.size)⟩
  · have hr : applyH l e d = (0, active l d) := by unfold applyH; rw [if_neg h5, if_neg h6]
    have HR := Lib.hid hr
    have e5 : (e.kind == 5) = false := beq_eq_false_iff_ne.2 h5
    have e6 : (e.kind == 6) = false := beq_eq_false_iff_ne.2 h6
    generalize others (active l d) e.path = os at *
    generalize active l d = bs at *
    clear hl hal ho hr h5 h6 hn
    go_enter Tryz.func61, Tryz.ntmps61
    go_wp2_with fail
    refine HA.out.mono ?_
    rintro en w1 ⟨v1, rfl, ho1, hb1⟩
    have HC := Lib.hid (HS.out v1 w1 hb1 (ho1.flat holdC_len))
    obtain ⟨a1, c1, rfl, _, _⟩ := ho1.form
    have d0 := (hb1.cell (p := ⟨w.heap.size, 0, none⟩) hlw).trans d0
    have HO := Lib.hid (ho1.flat holdC_len)
    clear ho1
    go_wp2_with fail
    refine HC.out.mono ?_
    rintro en w2 ⟨v2, rfl, ho2, hb2⟩
    obtain ⟨a2, c2, rfl, _, _⟩ := ho2.form
    have d0 := (hb2.cell (p := ⟨w.heap.size, 0, none⟩) (Nat.lt_of_lt_of_le hlw hb1.size)).trans d0
    clear ho2
    go_wp2_with fail
    go_ret2
    unfold HPost
    rw [HR.out]
    exact ⟨_, rfl, HO.out.below hb2, hbW.trans ((hb1.trans (hb2.mono hb1.size)).mono hbW.size)⟩
end Go.Proofs.YtbhmdcdhklgomaaGreatDoor

/-
  retention.Apply, a hold.
-/
namespace Go.Proofs.YtbhmdcdhklgomaaGreatDoor
open Go.RowKit Top

theorem flatm_take {α β : Type} (c : α → List β) (k : Nat) (hc : ∀ a, (c a).length = k) : ∀ (l : List α) (i : Nat), (l.take i).flatMap c = (l.flatMap c).take (i * k)
  | [], i => by simp
  | x :: l, 0 => by simp
  | x :: l, i + 1 => by
    have := hc x
    rw [List.take_succ_cons, List.flatMap_cons, List.flatMap_cons, flatm_take c k hc l i, Nat.succ_mul, Nat.add_comm, List.take_append, List.take_of_length_le (l := c x) (by omega), show k + i * k - (c x).length = i * k by omega]
theorem flatm_drop {α β : Type} (c : α → List β) (k : Nat) (hc : ∀ a, (c a).length = k) : ∀ (l : List α) (i : Nat), (l.drop i).flatMap c = (l.flatMap c).drop (i * k)
  | [], i => by simp
  | x :: l, 0 => by simp
  | x :: l, i + 1 => by
    have := hc x
    rw [List.drop_succ_cons, List.flatMap_cons, flatm_drop c k hc l i, Nat.succ_mul, Nat.add_comm, List.drop_append, List.drop_of_length_le (l := c x) (by omega), List.nil_append, show k + i * k - (c x).length = i * k by omega]
theorem insAt_flat {α β : Type} (c : α → List β) (k : Nat) (hc : ∀ a, (c a).length = k) (l : List α) (i : Nat) (x : α) : (insAt l i x).flatMap c = (l.flatMap c).take (i * k) ++ (c x ++ (l.flatMap c).drop (i * k)) := by
  unfold insAt
  rw [List.flatMap_append, List.flatMap_cons, flatm_take c k hc, flatm_drop c k hc]
theorem insAt_len {α : Type} (l : List α) (i : Nat) (x : α) (h : i ≤ l.length) : (insAt l i x).length = l.length + 1 := by
  unfold insAt
  rw [List.length_append, List.length_cons, List.length_take, List.length_drop]
  omega
theorem latest_take {l : List Hold} {k : Nat} {x : Hold} (h : l[k]? = some x) (p : Bs) (u : Int) : latest (l.take (k + 1)) p u = if x.path = p then max (latest (l.take k) p u) x.till else latest (l.take k) p u := by
  unfold latest
  rw [List.take_add_one, h, List.foldl_append]
  rfl
theorem holdAt_idx (l : List Hold) (p : Bs) : holdAt l p ≤ l.length ∧ ((0 ≤ idxO (l.findIdx? fun h => decide (0 < Path.cmp h.path p)) ∧ idxO (l.findIdx? fun h => decide (0 < Path.cmp h.path p)) = (holdAt l p : Nat)) ∨ (idxO (l.findIdx? fun h => decide (0 < Path.cmp h.path p)) < 0 ∧ holdAt l p = l.length)) := by
  unfold holdAt
  cases h : l.findIdx? fun h => decide (0 < Path.cmp h.path p) with
  | none => exact ⟨Nat.le_refl _, .inr ⟨by decide, rfl⟩⟩
  | some i =>
    have := (List.findIdx?_eq_some_iff_getElem.1 h).1
    exact ⟨by show i ≤ _; omega, .inl ⟨by show 0 ≤ (i : Int); omega, rfl⟩⟩

set_option maxHeartbeats 4000000 in
set_option maxRecDepth 100000 in
theorem happly_5 (hv v : Value) (l : List Hold) (e : Ent) (d : Int) (w : World) (hl : Holds w hv l) (hn : l.length ≤ 65535) (hev : EntV w v e) (h5 : e.kind = 5) (hg : Ground w) (hf : FitH l) (hP : e.path.length ≤ 16777216) (hT : e.target.length ≤ 16777216) :
    Calls Tryz.prog 61 #[hv, v, .int .i64 d] w (HPost l e d w) := by
  obtain ⟨aa, ac, ea, ec, rfl, _, _⟩ := hev
  obtain ⟨W, hW, hbW, hzW, d0, d1, d2, d3, d4, d5, d6⟩ := ebox w e (.slice aa e.attrs.length ac) (.slice ea e.exts.length ec)
  have hlw : w.heap.size < W.heap.size := by omega
  have HA := Lib.hid (active_any hv l d W (hl.below hbW) (by omega))
  have hal := active_len l d
  have hol := others_len (active l d) e.path
  have HS := Lib.hid (fun (v : Value) (X : World) (hX : Below W.heap.size W X) (hv : Holds X v (active l d)) =>
    selected_any 101 (enters_of Tryz.func101 (by kernel_rfl) rfl) (.pointer (some ⟨w.heap.size, 0, none⟩)) (fun h => h.path != e.path) v (active l d) X hv (by omega) (fun Y h hY => happ1_any h e.path w.heap.size Y ((hY.cell (p := ⟨w.heap.size, 1, none⟩) (Nat.lt_of_lt_of_le hlw hX.size)).trans ((hX.cell (p := ⟨w.heap.size, 1, none⟩) hlw).trans d1))))
  have ho : ((active l d).filter fun h => h.path != e.path) = others (active l d) e.path := rfl
  rw [ho] at HS
  have hfo := (hf.active d).others e.path
  have HI := Lib.hid (fun (v : Value) (X : World) (hX : Below W.heap.size W X) (hv : Holds X v (others (active l d) e.path)) =>
    idxHold_any 103 (enters_of Tryz.func103 (by kernel_rfl) rfl) (.pointer (some ⟨w.heap.size, 0, none⟩)) (fun h => decide (0 < Path.cmp h.path e.path)) v (others (active l d) e.path) X hv (fun Y h hm hY => happ2_any h e.path w.heap.size Y ((hY.cell (p := ⟨w.heap.size, 1, none⟩) (Nat.lt_of_lt_of_le hlw hX.size)).trans ((hX.cell (p := ⟨w.heap.size, 1, none⟩) hlw).trans d1)) (hfo h hm) hP))
  have HD := Lib.hid (fun X (hX : Below W.heap.size W X) => dateOf_any e.target X ((hg.below hbW).below hX) hT)
  cases hd : (dateOf e.target).2 with
  | false =>
    have hr : applyH l e d = (3, []) := by unfold applyH; rw [if_pos h5, if_pos hd]
    have HR := Lib.hid hr
    rw [h5] at d0 hW ⊢
    rw [hd] at HD
    generalize (dateOf e.target).1 = u0 at *
    generalize others (active l d) e.path = os at *
    generalize active l d = bs at *
    clear hl hal ho hr h5 hn hol hfo hf hg hT hP hd
    go_enter Tryz.func61, Tryz.ntmps61
    go_wp2_with fail
    refine HA.out.mono ?_
    rintro en w1 ⟨v1, rfl, ho1, hb1⟩
    have HC := Lib.hid (HS.out v1 w1 hb1 (ho1.flat holdC_len))
    have d0 := (hb1.cell (p := ⟨w.heap.size, 0, none⟩) hlw).trans d0
    have d3 := (hb1.cell (p := ⟨w.heap.size, 3, none⟩) hlw).trans d3
    clear ho1
    go_wp2_with fail
    refine HC.out.mono ?_
    rintro en w2 ⟨v2, rfl, ho2, hb2⟩
    have hlw1 := Nat.lt_of_lt_of_le hlw hb1.size
    have d0 := (hb2.cell (p := ⟨w.heap.size, 0, none⟩) hlw1).trans d0
    have d3 := (hb2.cell (p := ⟨w.heap.size, 3, none⟩) hlw1).trans d3
    have hb12 := hb1.trans (hb2.mono hb1.size)
    have HDX := Lib.hid (HD.out w2 hb12)
    clear ho2
    go_wp2_with fail
    refine HDX.out.mono ?_
    rintro en w3 ⟨rfl, hb3⟩
    go_wp2_with fail
    go_ret2
    unfold HPost
    rw [HR.out]
    exact ⟨_, rfl, Flat.nil _ _ _, hbW.trans ((hb12.trans (hb3.mono hb12.size)).mono hbW.size)⟩
  | true =>
    have hr : applyH l e d = (0, insAt (others (active l d) e.path) (holdAt (others (active l d) e.path) e.path) ⟨e.path, latest (active l d) e.path (dateOf e.target).1⟩) := by unfold applyH; rw [if_pos h5, if_neg (by rw [hd]; decide)]
    have HR := Lib.hid hr
    obtain ⟨hle, hidx⟩ := holdAt_idx (others (active l d) e.path) e.path
    rw [h5] at d0 hW ⊢
    rw [hd] at HD
    generalize (dateOf e.target).1 = u0 at *
    generalize holdAt (others (active l d) e.path) e.path = at_ at *
    generalize idxO (List.findIdx? (fun h => decide (0 < Path.cmp h.path e.path)) (others (active l d) e.path)) = ix at *
    generalize others (active l d) e.path = os at *
    generalize active l d = bs at *
    have hnb : bs.length ≤ 65535 := by omega
    have hno : os.length ≤ 65535 := by omega
    have HIX := Lib.hid hidx
    have HLE := Lib.hid hle
    clear hl hal ho hr h5 hn hol hfo hf hg hT hP hd hidx hle
    go_enter Tryz.func61, Tryz.ntmps61
    go_wp2_with fail
    refine HA.out.mono ?_
    rintro en w1 ⟨v1, rfl, ho1, hb1⟩
    have HF1 := Lib.hid (ho1.flat holdC_len)
    have HC := Lib.hid (HS.out v1 w1 hb1 HF1.out)
    have d0 := (hb1.cell (p := ⟨w.heap.size, 0, none⟩) hlw).trans d0
    have d1 := (hb1.cell (p := ⟨w.heap.size, 1, none⟩) hlw).trans d1
    have d3 := (hb1.cell (p := ⟨w.heap.size, 3, none⟩) hlw).trans d3
    obtain ⟨a1, c1, rfl, hq1, hq2⟩ := ho1.form
    clear ho1
    go_wp2_with fail
    refine HC.out.mono ?_
    rintro en w2 ⟨v2, rfl, ho2, hb2⟩
    have hlw1 := Nat.lt_of_lt_of_le hlw hb1.size
    have d0 := (hb2.cell (p := ⟨w.heap.size, 0, none⟩) hlw1).trans d0
    have d1 := (hb2.cell (p := ⟨w.heap.size, 1, none⟩) hlw1).trans d1
    have d3 := (hb2.cell (p := ⟨w.heap.size, 3, none⟩) hlw1).trans d3
    have hb12 := hb1.trans (hb2.mono hb1.size)
    have HDX := Lib.hid (HD.out w2 hb12)
    have HO2 := Lib.hid ho2
    have HF12 := Lib.hid (HF1.out.below hb2)
    clear ho2
    go_wp2_with fail
    refine HDX.out.mono ?_
    rintro en w3 ⟨rfl, hb3⟩
    have hlw2 := Nat.lt_of_lt_of_le hlw hb12.size
    have d1 := (hb3.cell (p := ⟨w.heap.size, 1, none⟩) hlw2).trans d1
    have hb13 := hb12.trans (hb3.mono hb12.size)
    have hlw3 := Nat.lt_of_lt_of_le hlw hb13.size
    have HO3 := Lib.hid (HO2.out.kept hb3)
    have HF13 := Lib.hid (HF12.out.below hb3)
    go_wp2_with fail
    go_loopw [10, 35] (fun u i wr => ∃ k : Nat, k ≤ bs.length ∧ i = .int .i64 k ∧ u = .int .i64 (latest (bs.take k) e.path u0) ∧ Below w3.heap.size w3 wr) (fun _ i _ => bs.length - (intOf i).toNat)
    case atStart => exact ⟨0, Nat.zero_le _, rfl, rfl, Below.refl _ _⟩
    case round =>
      obtain ⟨k, hk, rfl, rfl, hb⟩ := hrel
      by_cases hlt : k < bs.length
      · obtain ⟨x, hx⟩ : ∃ x, bs[k]? = some x := ⟨_, List.getElem?_eq_getElem hlt⟩
        obtain ⟨bk, o, rfl, hcell⟩ := (HF13.out.below hb).get hx
        have c0 := hcell 0 _ rfl
        have c1 := hcell 1 _ rfl
        rw [Nat.add_zero] at c0
        have d1 := (hb.cell (p := ⟨w.heap.size, 1, none⟩) hlw3).trans d1
        obtain ⟨X, hX, hbX, hzX, x0, x1⟩ := hbox wr x
        have d1 := (hbX.cell (p := ⟨w.heap.size, 1, none⟩) (Nat.lt_of_lt_of_le hlw3 hb.size)).trans d1
        have HLT := Lib.hid (latest_take hx e.path u0)
        have hq := (show ((⟨x.path.toArray⟩ : ByteArray).toList == (⟨e.path.toArray⟩ : ByteArray).toList) = (x.path == e.path) by rw [Lib.toList_data, Lib.toList_data])
        have hbx := hb.trans (hbX.mono hb.size)
        generalize latest (bs.take k) e.path u0 = u at *
        have hmx : ∀ (ts : Array TypeId) (t : TypeId) (W : World), (Builtin.max_ ts t #[.int .i64 u, .int .i64 x.till]).run Tryz.prog W = .ok (.int .i64 (max u x.till)) W := fun ts t W => by rw [Lib.run_max_ints]
        clear hcell hx
        by_cases he : x.path = e.path
        · rw [if_pos he] at HLT
          rw [beq_iff_eq.2 he] at hq
          clear he
          generalize (⟨x.path.toArray⟩ : ByteArray) = XP at *
          generalize (⟨e.path.toArray⟩ : ByteArray) = EP at *
          go_upto_region 11 with (fail)
          try rw [hX]
          clear hX
          go_wp2_with fail
          go_roundw
          case rel => exact ⟨k + 1, by omega, by go_num, by rw [HLT.out], hbx⟩
          case measure => simp [intOf]; omega
        · rw [if_neg he] at HLT
          rw [beq_eq_false_iff_ne.2 he] at hq
          clear he
          generalize (⟨x.path.toArray⟩ : ByteArray) = XP at *
          generalize (⟨e.path.toArray⟩ : ByteArray) = EP at *
          go_upto_region 11 with (fail)
          try rw [hX]
          clear hX
          go_wp2_with fail
          go_roundw
          case rel => exact ⟨k + 1, by omega, by go_num, by rw [HLT.out], hbx⟩
          case measure => simp [intOf]; omega
      · obtain rfl : k = bs.length := by omega
        rw [List.take_length]
        generalize latest bs e.path u0 = u at *
        have d1 := (hb.cell (p := ⟨w.heap.size, 1, none⟩) hlw3).trans d1
        have hb14 := hb13.trans (hb.mono hb13.size)
        have HO4 := Lib.hid (HO3.out.kept hb)
        have HIC := Lib.hid (HI.out v2 wr hb14 (HO4.out.flat holdC_len))
        obtain ⟨a2, c2, rfl, hq3, hq4⟩ := HO4.out.form
        rcases HIX.out with ⟨hi0, rfl⟩ | ⟨hi0, rfl⟩
        · go_wp2_with fail
          refine HIC.out.mono ?_
          rintro en w5 ⟨rfl, hb5⟩
          have hb15 := hb14.trans (hb5.mono hb14.size)
          have HO5 := Lib.hid (HO4.out.kept hb5)
          have d1 := (hb5.cell (p := ⟨w.heap.size, 1, none⟩) (Nat.lt_of_lt_of_le hlw3 hb.size)).trans d1
          obtain ⟨X, hX, hbX, hzX, x0, x1⟩ := hbox w5 ⟨e.path, u⟩
          have hblk : X.heap[w5.heap.size]? = some (.cells (holdC ⟨e.path, u⟩).toArray 87 (0, 0)) := by rw [← hX]; exact heap_alloc_new w5 _
          have hs1 : w1.heap.size ≤ X.heap.size := by
            have h1 := (hb2.trans ((hb3.trans ((hb.trans (hb5.mono hb.size)).mono hb3.size)).mono hb2.size)).size
            omega
          have hins := ins_hold (.slice a2 os.length c2) os.length at_ w1.heap.size w5.heap.size (os.flatMap holdC) (holdC ⟨e.path, u⟩) X (HO5.out.kept hbX) HLE.out (by omega) rfl (fun z hz => by obtain ⟨y, _, hy⟩ := List.mem_flatMap.1 hz; exact holdC_one y z hy) (holdC_one _) hblk (fun hbk => absurd (HO5.out.lt _ hbk).2 (Nat.lt_irrefl _)) hs1
          have HINS := Lib.hid hins
          have hb16 := hb15.trans (hbX.mono hb15.size)
          clear hblk hins
          go_wp2_with fail
          refine HINS.out.mono ?_
          rintro en w7 ⟨v7, rfl, ho7, hb7⟩
          have HO7 : OwnH w7 w1.heap.size v7 (insAt os at_ ⟨e.path, u⟩) := by
            show World.ownsRow _ _ _ _ _ _ _
            rw [insAt_len os at_ _ HLE.out, insAt_flat holdC 2 holdC_len]
            exact ho7
          go_wp2_with fail
          go_ret2
          unfold HPost
          rw [HR.out]
          exact ⟨_, rfl, HO7.flat holdC_len, hbW.trans ((hb16.trans (hb7.mono hb1.size)).mono hbW.size)⟩
        · go_wp2_with fail
          refine HIC.out.mono ?_
          rintro en w5 ⟨rfl, hb5⟩
          have hb15 := hb14.trans (hb5.mono hb14.size)
          have HO5 := Lib.hid (HO4.out.kept hb5)
          have d1 := (hb5.cell (p := ⟨w.heap.size, 1, none⟩) (Nat.lt_of_lt_of_le hlw3 hb.size)).trans d1
          obtain ⟨X, hX, hbX, hzX, x0, x1⟩ := hbox w5 ⟨e.path, u⟩
          have hblk : X.heap[w5.heap.size]? = some (.cells (holdC ⟨e.path, u⟩).toArray 87 (0, 0)) := by rw [← hX]; exact heap_alloc_new w5 _
          have hs1 : w1.heap.size ≤ X.heap.size := by
            have h1 := (hb2.trans ((hb3.trans ((hb.trans (hb5.mono hb.size)).mono hb3.size)).mono hb2.size)).size
            omega
          have hins := ins_hold (.slice a2 os.length c2) os.length os.length w1.heap.size w5.heap.size (os.flatMap holdC) (holdC ⟨e.path, u⟩) X (HO5.out.kept hbX) (Nat.le_refl _) (by omega) rfl (fun z hz => by obtain ⟨y, _, hy⟩ := List.mem_flatMap.1 hz; exact holdC_one y z hy) (holdC_one _) hblk (fun hbk => absurd (HO5.out.lt _ hbk).2 (Nat.lt_irrefl _)) hs1
          have HINS := Lib.hid hins
          have hb16 := hb15.trans (hbX.mono hb15.size)
          clear hblk hins
          go_wp2_with fail
          refine HINS.out.mono ?_
          rintro en w7 ⟨v7, rfl, ho7, hb7⟩
          have HO7 : OwnH w7 w1.heap.size v7 (insAt os os.length ⟨e.path, u⟩) := by
            show World.ownsRow _ _ _ _ _ _ _
            rw [insAt_len os os.length _ (Nat.le_refl _), insAt_flat holdC 2 holdC_len]
            exact ho7
          go_wp2_with fail
          go_ret2
          unfold HPost
          rw [HR.out]
          exact ⟨_, rfl, HO7.flat holdC_len, hbW.trans ((hb16.trans (hb7.mono hb1.size)).mono hbW.size)⟩
end Go.Proofs.YtbhmdcdhklgomaaGreatDoor

/-
  dirtree.Apply, whole (under entry.Check's contract); retention.Apply, whole.
-/
namespace Go.Proofs.YtbhmdcdhklgomaaGreatDoor
open Go.RowKit Top

theorem tapply_any (tv v : Value) (t : List Ent) (e : Ent) (w : World) (ht : Ents w tv t) (hn : t.length ≤ 65536) (hft : FitP t) (hfe : e.path.length ≤ 16777216) (hev : EntV w v e) (hck : CheckAt v e w) :
    Calls Tryz.prog 59 #[tv, v] w (TPost t e w) := by
  by_cases h1 : entErr e = 0
  · cases h2 : creates e with
    | false => exact tapp_del tv v t e w ht hn hft hfe hev hck h1 h2
    | true =>
      by_cases h3 : dirErr t (Path.parentV e.path) = 0
      · cases h4 : Top.find t e.path with
        | none => exact tapp_new tv v t e w ht hn hft hfe hev hck h1 h2 h3 h4
        | some i => exact tapp_set tv v t e w ht hn hfe hev hck h1 h2 h3 i h4
      · exact tapp_cdir tv v t e w ht hfe hev hck h1 h2 h3
  · exact tapp_err tv v t e w hev hck h1
theorem happly_any (hv v : Value) (l : List Hold) (e : Ent) (d : Int) (w : World) (hl : Holds w hv l) (hn : l.length ≤ 65535) (hev : EntV w v e) (hg : Ground w) (hf : FitH l) (hP : e.path.length ≤ 16777216) (hT : e.target.length ≤ 16777216) :
    Calls Tryz.prog 61 #[hv, v, .int .i64 d] w (HPost l e d w) := by
  by_cases h5 : e.kind = 5
  · exact happly_5 hv v l e d w hl hn hev h5 hg hf hP hT
  · exact happly_no hv v l e d w hl (by omega) hev h5
end Go.Proofs.YtbhmdcdhklgomaaGreatDoor

/-
  entry.target.
-/
namespace Go.Proofs.YtbhmdcdhklgomaaGreatDoor
open Go.RowKit Top

set_option maxHeartbeats 4000000 in
set_option maxRecDepth 100000 in
theorem target_any (v : Value) (e : Ent) (w : World) (hev : EntV w v e) (hg : Ground w) (hT : e.target.length ≤ 16777216) :
    Calls Tryz.prog 120 #[v] w fun en w' => en = .returned (.bool (targetOk e)) ∧ Below w.heap.size w w' := by
  obtain ⟨aa, ac, ea, ec, rfl, _, _⟩ := hev
  obtain ⟨W, hW, hbW, hzW, d0, d1, d2, d3, d4, d5, d6⟩ := ebox w e (.slice aa e.attrs.length ac) (.slice ea e.exts.length ec)
  have HD := Lib.hid (isDate_any e.target W (hg.below hbW) hT)
  have hp : ((⟨e.target.toArray⟩ : ByteArray).toList == []) = decide (e.target = []) := by
    rw [Lib.toList_data]
    cases e.target <;> rfl
  have hz : (⟨e.target.toArray⟩ : ByteArray).size = e.target.length := by simp [ByteArray.size]
  have hr : targetOk e = if e.kind = 3 then (!decide (e.target = []) && decide (e.target.length ≤ 200)) else if e.kind = 5 then isDate e.target else decide (e.target = []) := by
    have n1 : (e.target == []) = decide (e.target = []) := by cases e.target <;> rfl
    have n2 : (e.target != []) = !decide (e.target = []) := by cases e.target <;> rfl
    unfold targetOk
    rw [n1, n2]
  have HR := Lib.hid hr
  obtain ⟨b, hb⟩ : ∃ b, decide (e.target = []) = b := ⟨_, rfl⟩
  have HB := Lib.hid hb
  rw [hb] at hp
  clear hr hb hg hT d1 d2 d4 d5 d6
  generalize hU : (⟨e.target.toArray⟩ : ByteArray) = U at *
  clear hU
  by_cases h3 : e.kind = 3
  · have HR : Hid (targetOk e = (!b && decide (e.target.length ≤ 200))) := by
      show _ = _
      rw [HR.out, if_pos h3, HB.out]
    rw [HR.out]
    rw [h3] at d0 hW ⊢
    clear h3 HD
    generalize e.target.length = n at *
    cases b
    · by_cases hn : n ≤ 200
      · have e1 : decide (n ≤ 200) = true := decide_eq_true hn
        rw [e1]
        have q1 : ((U.size : Nat) : Int) ≤ 200 := by omega
        clear e1 hn hz
        go_enter Tryz.func120, Tryz.ntmps120
        go_wp2_with fail
        go_ret
        exact ⟨rfl, hbW⟩
      · have e1 : decide (n ≤ 200) = false := decide_eq_false hn
        rw [e1]
        have q1 : ¬ ((U.size : Nat) : Int) ≤ 200 := by omega
        clear e1 hn hz
        go_enter Tryz.func120, Tryz.ntmps120
        go_wp2_with fail
        go_ret
        exact ⟨rfl, hbW⟩
    · clear hz
      go_enter Tryz.func120, Tryz.ntmps120
      go_wp2_with fail
      go_ret
      exact ⟨rfl, hbW⟩
  · by_cases h5 : e.kind = 5
    · have HR : Hid (targetOk e = isDate e.target) := by
        show _ = _
        rw [HR.out, if_neg h3, if_pos h5]
      rw [HR.out]
      rw [h5] at d0 hW ⊢
      clear h3 h5 hp hz
      go_enter Tryz.func120, Tryz.ntmps120
      go_wp2_with fail
      refine HD.out.mono ?_
      rintro en w1 ⟨rfl, hb1⟩
      go_wp2_with fail
      go_ret
      exact ⟨rfl, hbW.trans (hb1.mono hbW.size)⟩
    · have HR : Hid (targetOk e = b) := by
        show _ = _
        rw [HR.out, if_neg h3, if_neg h5, HB.out]
      rw [HR.out]
      have e3 : (e.kind == 3) = false := beq_eq_false_iff_ne.2 h3
      have e5 : (e.kind == 5) = false := beq_eq_false_iff_ne.2 h5
      generalize e.kind = k at *
      clear hz HD
      go_enter Tryz.func120, Tryz.ntmps120
      go_wp2_with fail
      go_ret
      exact ⟨rfl, hbW⟩
end Go.Proofs.YtbhmdcdhklgomaaGreatDoor

/-
  entry.content.
-/
namespace Go.Proofs.YtbhmdcdhklgomaaGreatDoor
open Go.RowKit Top

theorem xbox (w : World) (x : Ext) : ∃ W, w.alloc (.cells #[.int .i64 x.ses, .int .i64 x.off, .int .i64 x.len] 93) = W ∧ Below w.heap.size w W ∧ W.heap.size = w.heap.size + 1 ∧
    W.cell? ⟨w.heap.size, 0, none⟩ = some (.int .i64 x.ses) ∧ W.cell? ⟨w.heap.size, 1, none⟩ = some (.int .i64 x.off) ∧ W.cell? ⟨w.heap.size, 2, none⟩ = some (.int .i64 x.len) := by
  have e := heap_alloc_new w (.cells #[.int .i64 x.ses, .int .i64 x.off, .int .i64 x.len] 93)
  exact ⟨_, rfl, (Below.refl _ w).alloc (Nat.le_refl _) _, by simp, tcell e 0 _ rfl, tcell e 1 _ rfl, tcell e 2 _ rfl⟩
/-- How a bad extent is bad, in the program's order. -/
theorem extBad_cases (x : Ext) : (extBad x = true ∧ (x.ses < 0 ∨ (¬ x.ses < 0 ∧ 255 < x.ses) ∨ (¬ x.ses < 0 ∧ ¬ 255 < x.ses ∧ x.len < 1) ∨ (¬ x.ses < 0 ∧ ¬ 255 < x.ses ∧ ¬ x.len < 1 ∧ 65536 < x.len) ∨ (¬ x.ses < 0 ∧ ¬ 255 < x.ses ∧ ¬ x.len < 1 ∧ ¬ 65536 < x.len ∧ x.off < 0) ∨
      (¬ x.ses < 0 ∧ ¬ 255 < x.ses ∧ ¬ x.len < 1 ∧ ¬ 65536 < x.len ∧ ¬ x.off < 0 ∧ 2147483647 < x.off) ∨ (¬ x.ses < 0 ∧ ¬ 255 < x.ses ∧ ¬ x.len < 1 ∧ ¬ 65536 < x.len ∧ ¬ x.off < 0 ∧ ¬ 2147483647 < x.off ∧ (x.ses == 0) = true ∧ (x.off == 0) = false))) ∨
    (extBad x = false ∧ ¬ x.ses < 0 ∧ ¬ 255 < x.ses ∧ ¬ x.len < 1 ∧ ¬ 65536 < x.len ∧ ¬ x.off < 0 ∧ ¬ 2147483647 < x.off ∧ ((x.ses == 0) = false ∨ ((x.ses == 0) = true ∧ (x.off == 0) = true))) := by
  unfold extBad
  by_cases a1 : x.ses < 0
  · simp [a1]
  by_cases a2 : 255 < x.ses
  · simp [a1, a2]
  by_cases a3 : x.len < 1
  · simp [a1, a2, a3]
  by_cases a4 : 65536 < x.len
  · simp [a1, a2, a3, a4]
  by_cases a5 : x.off < 0
  · simp [a1, a2, a3, a4, a5]
  by_cases a6 : 2147483647 < x.off
  · simp [a1, a2, a3, a4, a5, a6]
  by_cases a7 : x.ses = 0 <;> by_cases a8 : x.off = 0 <;> simp [a1, a2, a3, a4, a5, a6, a7, a8]

set_option maxHeartbeats 4000000 in
set_option maxRecDepth 100000 in
theorem content_no (v : Value) (e : Ent) (w : World) (hev : EntV w v e) (h1 : e.kind ≠ 1) :
    Calls Tryz.prog 121 #[v] w fun en w' => en = .returned (.int .i64 (contentErr e)) ∧ Below w.heap.size w w' := by
  obtain ⟨aa, ac, ea, ec, rfl, _, hex⟩ := hev
  obtain ⟨W, hW, hbW, hzW, d0, d1, d2, d3, d4, d5, d6⟩ := ebox w e (.slice aa e.attrs.length ac) (.slice ea e.exts.length ec)
  have hlw : w.heap.size < W.heap.size := by omega
  have hr : contentErr e = if e.size < 0 ∨ 0 < e.size then 2 else if e.digest.length ≠ 0 then 1 else if e.exts ≠ [] then 1 else 0 := by
    unfold contentErr
    rw [if_neg h1, if_neg h1]
    by_cases h2 : e.size < 0 ∨ 0 < e.size
    · rw [if_pos h2, if_pos h2]
    · rw [if_neg h2, if_neg h2]
      by_cases h3 : e.digest.length ≠ 0
      · rw [if_pos h3, if_pos h3]
      · rw [if_neg h3, if_neg h3]
        by_cases h4 : e.exts ≠ []
        · rw [if_pos ⟨h1, h4⟩, if_pos h4]
        · rw [if_neg (fun h => h4 h.2), if_neg h4, Classical.not_not.1 h4]
          have h5 : e.size = 0 := by omega
          rw [h5]
          rfl
  have HR := Lib.hid hr
  have hz : (⟨e.digest.toArray⟩ : ByteArray).size = e.digest.length := by simp [ByteArray.size]
  have e1 : (e.kind == 1) = false := beq_eq_false_iff_ne.2 h1
  have HEX := Lib.hid hex
  clear hr hex h1 d1 d2 d3
  generalize contentErr e = res at *
  generalize (⟨e.digest.toArray⟩ : ByteArray) = D at *
  generalize e.digest.length = dn at *
  generalize e.kind = k at *
  by_cases hs : e.size < 0 ∨ 0 < e.size
  · have HR : Hid (res = 2) := by
      show _ = _
      rw [HR.out, if_pos hs]
    rw [HR.out]
    clear hz HEX
    generalize e.size = sz at *
    rcases hs with hs | hs
    · go_enter Tryz.func121, Tryz.ntmps121
      go_wp2_with fail
      go_ret
      exact ⟨rfl, hbW⟩
    · have hs' : ¬ sz < 0 := by omega
      go_enter Tryz.func121, Tryz.ntmps121
      go_wp2_with fail
      go_ret
      exact ⟨rfl, hbW⟩
  · have hs0 : e.size = 0 := by omega
    rw [if_neg hs] at HR
    rw [hs0] at d4 hW ⊢
    clear hs hs0
    by_cases hd : dn = 0
    · have HR : Hid (res = if e.exts ≠ [] then 1 else 0) := by
        show _ = _
        rw [HR.out, if_neg (by omega)]
      have hD : D.size = 0 := by omega
      clear hz hd
      go_enter Tryz.func121, Tryz.ntmps121
      go_wp2_with fail
      go_loopw [32] (fun i wr => i = .int .i64 0 ∧ Below W.heap.size W wr) (fun i _ => 0)
      case atStart => exact ⟨rfl, Below.refl _ _⟩
      case round =>
        obtain ⟨rfl, hb⟩ := hrel
        have d0 := (hb.cell (p := ⟨w.heap.size, 0, none⟩) hlw).trans d0
        have d4 := (hb.cell (p := ⟨w.heap.size, 4, none⟩) hlw).trans d4
        have d6 := (hb.cell (p := ⟨w.heap.size, 6, none⟩) hlw).trans d6
        have hbw := hbW.trans (hb.mono hbW.size)
        cases hxs : e.exts with
        | nil =>
          rw [hxs] at HR d6
          have HR : Hid (res = 0) := HR
          clear hxs
          go_wp2_with fail
          go_loopw [5, 81] (fun r i wr' => r = .int .i64 0 ∧ i = .int .i64 0 ∧ wr' = wr) (fun _ i _ => 0)
          case atStart => exact ⟨rfl, rfl, rfl⟩
          case round =>
            obtain ⟨rfl, rfl, rfl⟩ := hrel
            go_wp2_with fail
            go_ret
            exact ⟨by rw [HR.out]; rfl, hbw⟩
        | cons x l =>
          have HE := Lib.hid (HEX.out.below hbw)
          have hx : e.exts[0]? = some x := by rw [hxs]; rfl
          obtain ⟨bk, o, rfl, hcell⟩ := HE.out.get hx
          have c0 := hcell 0 _ rfl
          have c1 := hcell 1 _ rfl
          have c2 := hcell 2 _ rfl
          rw [hxs] at HR
          have HR : Hid (res = 1) := HR
          simp only [Nat.zero_mul, Nat.add_zero] at c0 c1 c2
          obtain ⟨X, hX, hbX, hzX, x0, x1, x2⟩ := xbox wr x
          have d0 := (hbX.cell (p := ⟨w.heap.size, 0, none⟩) (Nat.lt_of_lt_of_le hlw hb.size)).trans d0
          have hlen : (0 : Int) < (e.exts.length : Int) := by rw [hxs]; simp only [List.length_cons]; omega
          clear hcell hx hxs
          go_upto_region 12 with (fail)
          try rw [hX]
          clear hX
          go_wp2_with fail
          go_ret
          exact ⟨by rw [HR.out]; rfl, hbw.trans (hbX.mono hbw.size)⟩
    · have HR : Hid (res = 1) := by
        show _ = _
        rw [HR.out, if_pos hd]
      rw [HR.out]
      have q1 : (((D.size : Nat) : Int) == 0) = false := beq_eq_false_iff_ne.2 (by omega)
      clear hz hd HEX
      go_enter Tryz.func121, Tryz.ntmps121
      go_wp2_with fail
      go_ret
      exact ⟨rfl, hbW⟩
end Go.Proofs.YtbhmdcdhklgomaaGreatDoor
