/-
  history.Tree, history.Holds, history.AsOf.
-/
import Derived.Test.YtbhmdcdhklgomaaGreatDoorM33
import Derived.Test.YtbhmdcdhklgomaaGreatDoorM32
import Derived.Test.YtbhmdcdhklgomaaGreatDoorM31
namespace Go.Proofs.YtbhmdcdhklgomaaGreatDoor
open Go.RowKit Top

theorem Sess.take {w : World} {ao : Option Addr} {n cap : Nat} {l : List Ses} (h : Sess w (.slice ao n cap) l) (k : Nat) : Sess w (.slice ao (l.take k).length cap) (l.take k) := by
  obtain ⟨ao', cap', vss, h1, h2, h3, h4, h5, h6⟩ := h
  injection h1 with e1 e2 e3
  subst e1 e3
  refine ⟨ao, cap, vss.take k, rfl, ?_, h3, fun j vs hj => h4 j vs ?_, ?_, fun j x y hx hy => h6 j x y ?_ ?_⟩
  · rw [List.length_take]
    omega
  · rw [List.getElem?_take] at hj
    split at hj
    · exact hj
    · cases hj
  · rw [List.length_take, List.length_take, h5]
  · rw [List.getElem?_take] at hx
    split at hx
    · exact hx
    · cases hx
  · rw [List.getElem?_take] at hy
    split at hy
    · exact hy
    · cases hy
theorem listE_len : ∀ (l : List Ses) (k : Nat), (listE k l).length = count l
  | [], _ => rfl
  | s :: l, k => by
    have h1 : ∀ (r : List Ent) (m : Nat), (entsE k s m r).length = r.length := fun r => by
      induction r with
      | nil => intro m; rfl
      | cons e r ih => intro m; show (entsE k s (m + 1) r).length + 1 = _; rw [ih]; rfl
    rw [listE, List.length_append, h1, listE_len l]
    unfold count
    rw [List.map_cons, List.sum_cons]
theorem count_take (l : List Ses) (k : Nat) : count (l.take k) ≤ count l := by
  unfold count
  rw [List.map_take]
  exact take_le _ _
theorem count_each {l : List Ses} {s : Ses} (h : s ∈ l) : s.entries.length ≤ count l := by
  induction l with
  | nil => cases h
  | cons x l ih =>
    unfold count
    rw [List.map_cons, List.sum_cons]
    rcases List.mem_cons.1 h with rfl | h
    · omega
    · have := ih h
      unfold count at this
      omega
/-- Sessions that a call of history may be asked of. -/
structure HistOk (l : List Ses) : Prop where
  each : ∀ s ∈ l, ∀ e ∈ s.entries, entErr e = 0
  count : count l ≤ 60000
  len : l.length ≤ 1000000
theorem HistOk.take {l : List Ses} (h : HistOk l) (k : Nat) : HistOk (l.take k) :=
  ⟨fun s hs => h.each s (List.mem_of_mem_take hs), Nat.le_trans (count_take l k) h.count, by rw [List.length_take]; have := h.len; omega⟩
theorem afterK_any (sa : Option Addr) (n sc : Nat) (l : List Ses) (k : Nat) (w : World) (hs : Sess w (.slice sa n sc) l) (hg : Ground w) (hok : HistOk l) (hk : k ≤ l.length) :
    Calls Tryz.prog 29 #[.slice sa k sc] w fun en w' => ∃ v', en = .returned v' ∧ StV w' v' (afterS (l.take k)) ∧ Below w.heap.size w w' := by
  have hl : (l.take k).length = k := by rw [List.length_take]; omega
  have ht := hok.take k
  have h := after_any sa sc (l.take k) w (hs.take k) hg ht.each (by rw [listE_len]; exact ht.count) ht.len (fun s hs' => by
    have := count_each hs'
    have := ht.count
    omega)
  rwa [hl] at h

theorem field_tree (ta ha : Option Addr) (n m tc hc : Nat) (X : World) : (Instr.field 83 (.agg #[.slice ta n tc, .slice ha m hc]) 0).run Tryz.prog X = .ok (.slice ta n tc) X := by kernel_rfl
theorem field_holds (ta ha : Option Addr) (n m tc hc : Nat) (X : World) : (Instr.field 83 (.agg #[.slice ta n tc, .slice ha m hc]) 1).run Tryz.prog X = .ok (.slice ha m hc) X := by kernel_rfl
set_option maxHeartbeats 2000000 in
set_option maxRecDepth 100000 in
theorem tree_any (sa : Option Addr) (sc : Nat) (l : List Ses) (n : Int) (w : World) (hs : Sess w (.slice sa l.length sc) l) (hg : Ground w) (hok : HistOk l) :
    Calls Tryz.prog 9 #[.slice sa l.length sc, .int .i64 n] w fun en w' => ∃ v, en = .returned (.tuple #[v, .int .i64 (treeE l n).2]) ∧ Ents w' v (treeE l n).1 ∧ Below w.heap.size w w' := by
  have hcap : l.length ≤ sc ∧ sc ≤ 9223372036854775807 := by
    obtain ⟨_, _, e, h1, h2⟩ := hs.form
    injection e with _ _ e3
    omega
  by_cases h0 : n < 0 ∨ (l.length : Int) < n
  · have HT : Hid (treeE l n = ([], 2)) := by
      show _ = _
      exact if_pos h0
    rcases Decidable.em (n < 0) with h1 | h1
    all_goals
      try have h2 : (l.length : Int) < n := by omega
      clear h0
      go_enter Tryz.func9, Tryz.ntmps9
      go_wp2_with fail
      go_ret2
      rw [HT.out]
      exact ⟨_, rfl, Ents.nil _, Below.refl _ _⟩
  · obtain ⟨k, rfl⟩ : ∃ k : Nat, n = k := ⟨n.toNat, by omega⟩
    have HT : Hid (treeE l (k : Int) = ((afterS (l.take k)).tree, 0)) := by
      show _ = _
      exact if_neg h0
    have hk : k ≤ l.length := by omega
    have HA := Lib.hid (afterK_any sa l.length sc l k w hs hg hok hk)
    have h1 : ¬ (k : Int) < 0 := by omega
    have h2 : ¬ (l.length : Int) < (k : Int) := by omega
    have h3 : (k : Int) ≤ (sc : Int) := by omega
    have h4 : k ≤ sc := by omega
    clear h0 hs
    go_enter Tryz.func9, Tryz.ntmps9
    go_wp2_with fail
    refine HA.out.mono ?_
    rintro en w1 ⟨v', rfl, ⟨ta, tc, ha, hc, rfl, m1, m2⟩, hb⟩
    have qf := field_tree ta ha (afterS (l.take k)).tree.length (afterS (l.take k)).holds.length tc hc w1
    go_wp2_with fail
    go_ret2
    rw [HT.out]
    exact ⟨_, rfl, m1, hb⟩
set_option maxHeartbeats 2000000 in
set_option maxRecDepth 100000 in
theorem holds_any (sa : Option Addr) (sc : Nat) (l : List Ses) (n : Int) (w : World) (hs : Sess w (.slice sa l.length sc) l) (hg : Ground w) (hok : HistOk l) :
    Calls Tryz.prog 10 #[.slice sa l.length sc, .int .i64 n] w fun en w' => ∃ v, en = .returned v ∧ Holds w' v (holdsE l n) ∧ Below w.heap.size w w' := by
  have hcap : l.length ≤ sc ∧ sc ≤ 9223372036854775807 := by
    obtain ⟨_, _, e, h1, h2⟩ := hs.form
    injection e with _ _ e3
    omega
  by_cases h0 : n < 0 ∨ (l.length : Int) < n
  · have HT : Hid (holdsE l n = []) := by
      show _ = _
      exact if_pos h0
    rcases Decidable.em (n < 0) with h1 | h1
    all_goals
      try have h2 : (l.length : Int) < n := by omega
      clear h0
      go_enter Tryz.func10, Tryz.ntmps10
      go_wp2_with fail
      go_ret
      rw [HT.out]
      exact ⟨_, rfl, Flat.nil _ _ _, Below.refl _ _⟩
  · obtain ⟨k, rfl⟩ : ∃ k : Nat, n = k := ⟨n.toNat, by omega⟩
    have HT : Hid (holdsE l (k : Int) = (afterS (l.take k)).holds) := by
      show _ = _
      exact if_neg h0
    have hk : k ≤ l.length := by omega
    have HA := Lib.hid (afterK_any sa l.length sc l k w hs hg hok hk)
    have h1 : ¬ (k : Int) < 0 := by omega
    have h2 : ¬ (l.length : Int) < (k : Int) := by omega
    have h3 : (k : Int) ≤ (sc : Int) := by omega
    have h4 : k ≤ sc := by omega
    clear h0 hs
    go_enter Tryz.func10, Tryz.ntmps10
    go_wp2_with fail
    refine HA.out.mono ?_
    rintro en w1 ⟨v', rfl, ⟨ta, tc, ha, hc, rfl, m1, m2⟩, hb⟩
    have qf := field_holds ta ha (afterS (l.take k)).tree.length (afterS (l.take k)).holds.length tc hc w1
    go_wp2_with fail
    go_ret
    rw [HT.out]
    exact ⟨_, rfl, m2, hb⟩
end Go.Proofs.YtbhmdcdhklgomaaGreatDoor

/-
  A session is written: what stays within bounds. No program.
-/
namespace Go.Proofs.YtbhmdcdhklgomaaGreatDoor
open Go.RowKit Top

theorem count_snoc (l : List Ses) (s : Ses) : count (l ++ [s]) = count l + s.entries.length := by
  unfold count
  simp
theorem digestB_len (s : Ses) : (digestB s).length = 32 := sum_len _
theorem prevB_len (l : List Ses) : (prevB l).length ≤ 32 := by
  unfold prevB
  split
  · rw [digestB_len]; omega
  · simp
/-- A draft behind sessions with m entries. -/
structure DraOk (m : Nat) (d : Draft) : Prop where
  rep : RepOk (m + d.entries.length) ⟨d.store, d.tree, d.holds⟩
  num0 : 0 ≤ d.num
  num1 : d.num ≤ 1000000000
  date0 : 0 ≤ d.date
  date1 : d.date ≤ 1000000000
  prev : d.prev.length ≤ 64
  stream : d.store.stream.length ≤ 14680064
  each : ∀ e ∈ d.entries, entErr e = 0
theorem beginS_ok {l : List Ses} {date : Int} (hl : ∀ s ∈ l, SesOk s) (h0 : (beginS l date).2 = 0) : DraOk (count l) (beginS l date).1 ∧ (beginS l date).1.entries = [] ∧ l.length < 255 := by
  unfold beginS at h0 ⊢
  split at h0
  · exact absurd h0 (by decide)
  · rename_i g1
    split at h0
    · exact absurd h0 (by decide)
    · rename_i g2
      split at h0
      · exact absurd h0 (by decide)
      · rename_i g3
        split at h0
        · rename_i g4
          exact absurd h0 g4
        · rename_i g4
          rw [if_neg g1, if_neg g2, if_neg g3, if_neg g4]
          have hr := replay_ok (l := l) (fun s hs => (hl s hs).each)
          refine ⟨⟨⟨begin_ok hr.store _, hr.tree, hr.paths, Nat.le_trans (active_ok hr.fits).1 hr.holds, (active_ok hr.fits).2⟩, ?_, ?_, ?_, ?_, ?_, ?_, ?_⟩, rfl, by omega⟩
          · show 0 ≤ (l.length : Int) + 1
            omega
          · show (l.length : Int) + 1 ≤ _
            omega
          · show 0 ≤ date
            omega
          · show date ≤ _
            omega
          · have := prevB_len l
            show (prevB l).length ≤ 64
            omega
          · show (Top.begin (replay l).store ((l.length : Int) + 1)).1.stream.length ≤ _
            have g4 : (Top.begin (replay l).store ((l.length : Int) + 1)).2 = 0 := Decidable.of_not_not g4
            unfold Top.begin at g4 ⊢
            split at g4
            · cases g4
            · rename_i k1
              split at g4
              · cases g4
              · rename_i k2
                rw [if_neg k1, if_neg k2]
                show (0 : Nat) ≤ _
                omega
          · intro e he
            exact absurd he (by simp)
theorem recE_path (s : Store) (c : Change) : (recE s c).path = c.path := by
  unfold recE
  split <;> rfl
theorem addS_ok {m : Nat} {d : Draft} {c : Change} (h : DraOk m d) : DraOk m (addS d c).1 ∧ (addS d c).1.entries.length ≤ d.entries.length + 1 := by
  have same : DraOk m d ∧ d.entries.length ≤ d.entries.length + 1 := ⟨h, by omega⟩
  unfold addS
  split
  · exact same
  · rename_i g1
    split
    · exact same
    · split
      · exact same
      · rename_i g3
        split
        · exact same
        · split
          · exact same
          · split
            · exact same
            · have ge : entErr (recE d.store c) = 0 := Decidable.of_not_not g1
              have hp : (recE d.store c).path.length ≤ 16777216 := by have := (valid ge).path; omega
              have hl : (d.entries ++ [recE d.store c]).length = d.entries.length + 1 := by simp
              have hR := h.rep
              refine ⟨⟨⟨?_, (applyT_ok hR.tree hR.paths hp).1, (applyT_ok hR.tree hR.paths hp).2, ?_, (applyH_ok hR.fits hp).2⟩, h.num0, h.num1, h.date0, h.date1, h.prev, ?_, ?_⟩, ?_⟩
              · show StoOk ((m + (d.entries ++ [recE d.store c]).length) * 200000) (recS d.store c)
                rw [hl]
                unfold recS
                split
                · rw [show (m + (d.entries.length + 1)) * 200000 = (m + d.entries.length) * 200000 + 200000 by omega]
                  exact put_ok hR.store _
                · exact hR.store.mono (by omega)
              · show (applyH d.holds (recE d.store c) d.date).2.length ≤ m + (d.entries ++ [recE d.store c]).length
                rw [hl]
                have h4 : (applyH d.holds (recE d.store c) d.date).2.length ≤ d.holds.length + 1 := (applyH_ok (d := d.date) hR.fits hp).1
                have h5 : d.holds.length ≤ m + d.entries.length := hR.holds
                omega
              · show (recS d.store c).stream.length ≤ _
                omega
              · intro e he
                rcases List.mem_append.1 he with he | he
                · exact h.each e he
                · rw [List.mem_singleton] at he
                  subst he
                  exact ge
              · show (d.entries ++ [recE d.store c]).length ≤ _
                omega
theorem closeS_ok {m : Nat} {d : Draft} (h : DraOk m d) (hm : m + d.entries.length ≤ 80) : SesOk (closeS d) :=
  ⟨h.num0, h.num1, h.date0, h.date1, h.prev, by
    have := h.stream
    show d.store.stream.length ≤ _
    omega, by
    show d.entries.length ≤ _
    omega, h.each⟩
/-- Sessions as they are written: at most n entries. -/
structure ArcOk (n : Nat) (l : List Ses) : Prop where
  each : ∀ s ∈ l, SesOk s
  count : count l ≤ n
  len : l.length ≤ 255
theorem appendS_ok {n : Nat} {l : List Ses} {s : Ses} (h : ArcOk n l) (hs : SesOk s) (hn : count l + s.entries.length ≤ n) : ArcOk n (appendS l s).1 := by
  unfold appendS
  split
  · exact h
  · split
    · exact h
    · split
      · exact h
      · refine ⟨fun x hx => ?_, by rw [count_snoc]; exact hn, by show (l ++ [s]).length ≤ _; rw [List.length_append, List.length_singleton]; omega⟩
        rcases List.mem_append.1 hx with hx | hx
        · exact h.each x hx
        · rw [List.mem_singleton] at hx
          subst hx
          exact hs
theorem ArcOk.mono {n m : Nat} {l : List Ses} (h : ArcOk n l) (hm : n ≤ m) : ArcOk m l := ⟨h.each, Nat.le_trans h.count hm, h.len⟩
theorem ArcOk.hist {n : Nat} {l : List Ses} (h : ArcOk n l) (hn : n ≤ 80) : HistOk l := ⟨fun s hs => (h.each s hs).each, by have := h.count; omega, by have := h.len; omega⟩
theorem addAll_ok {m : Nat} : ∀ (l : List Change) {d : Draft}, DraOk m d → DraOk m (addAll d l) ∧ (addAll d l).entries.length ≤ d.entries.length + l.length
  | [], d, h => ⟨h, by show d.entries.length ≤ _; omega⟩
  | c :: l, d, h => by
    unfold addAll
    rw [List.foldl_cons]
    by_cases g : (addS d c).2 = 0
    · rw [if_pos g]
      have h1 := addS_ok (c := c) h
      have h2 := addAll_ok l h1.1
      unfold addAll at h2
      refine ⟨h2.1, Nat.le_trans h2.2 ?_⟩
      have := h1.2
      simp only [List.length_cons]
      omega
    · rw [if_neg g]
      have h2 := addAll_ok l h
      unfold addAll at h2
      refine ⟨h2.1, Nat.le_trans h2.2 ?_⟩
      simp only [List.length_cons]
      omega
end Go.Proofs.YtbhmdcdhklgomaaGreatDoor

/-
  retention.Apply, its holds in a row of the call's own. (Written by gen_hapo.py.)
-/
namespace Go.Proofs.YtbhmdcdhklgomaaGreatDoor
open Go.RowKit Top

/-- What Apply leads to. -/
def HPostO (l : List Hold) (e : Ent) (d : Int) (w : World) (en : Ending) (w' : World) : Prop := ∃ v, en = .returned (.tuple #[v, .int .i64 (applyH l e d).1]) ∧ OwnH w' w.heap.size v (applyH l e d).2 ∧ Below w.heap.size w w'

set_option maxHeartbeats 4000000 in
set_option maxRecDepth 100000 in
theorem happlyO_no (hv v : Value) (l : List Hold) (e : Ent) (d : Int) (w : World) (hl : Holds w hv l) (hn : l.length ≤ 65536) (hev : EntV w v e) (h5 : e.kind ≠ 5) :
    Calls Tryz.prog 61 #[hv, v, .int .i64 d] w (HPostO l e d w) := by
  obtain ⟨aa, ac, ea, ec, rfl, _, _⟩ := hev
  obtain ⟨W, hW, hbW, hzW, d0, d1, d2, d3, d4, d5, d6⟩ := ebox w e (.slice aa e.attrs.length ac) (.slice ea e.exts.length ec)
  have hlw : w.heap.size < W.heap.size := by omega
  have HA := Lib.hid (active_any hv l d W (hl.below hbW) (by omega))
  have hal := active_len l d
  have HS := Lib.hid (fun (v : Value) (X : World) (hX : Below W.heap.size W X) (hv : Holds X v (active l d)) =>
    selected_any 101 (enters_of Tryz.func101 (by kernel_rfl) rfl) (.pointer (some ⟨w.heap.size, 0, none⟩)) (fun h => h.path != e.path) v (active l d) X hv (by omega) (fun Y h hY => happ1_any h e.path w.heap.size Y ((hY.cell (p := ⟨w.heap.size, 1, none⟩) (Nat.lt_of_lt_of_le hlw hX.size)).trans ((hX.cell (p := ⟨w.heap.size, 1, none⟩) hlw).trans d1))))
  have ho : ((active l d).filter fun h => h.path != e.path) = others (active l d) e.path := rfl
  rw [ho] at HS
  by_cases h6 : e.kind = 6
  · by_cases hlen : (others (active l d) e.path).length = (active l d).length
    · have hr : applyH l e d = (9, []) := by unfold applyH; rw [if_neg h5, if_pos h6, if_pos hlen]
      have HR := Lib.hid hr
      have hq : (((others (active l d) e.path).length : Int) == ((active l d).length : Int)) = true := by rw [hlen]; simp
      rw [h6] at d0 hW ⊢
      generalize others (active l d) e.path = os at *
      generalize active l d = bs at *
      clear hl hal ho hr h5 h6 hlen hn
      go_enter Tryz.func61, Tryz.ntmps61
      go_wp2_with fail
      refine HA.out.mono ?_
      rintro en w1 ⟨v1, rfl, ho1, hb1⟩
      have HC := Lib.hid (HS.out v1 w1 hb1 (ho1.flat holdC_len))
      obtain ⟨a1, c1, rfl, _, _⟩ := ho1.form
      have d0 := (hb1.cell (p := ⟨w.heap.size, 0, none⟩) hlw).trans d0
      clear ho1
      go_wp2_with fail
      refine HC.out.mono ?_
      rintro en w2 ⟨v2, rfl, ho2, hb2⟩
      obtain ⟨a2, c2, rfl, _, _⟩ := ho2.form
      have d0 := (hb2.cell (p := ⟨w.heap.size, 0, none⟩) (Nat.lt_of_lt_of_le hlw hb1.size)).trans d0
      clear ho2
      go_wp2_with fail
      go_ret2
      unfold HPostO
      rw [HR.out]
      exact ⟨_, rfl, OwnF.nil _ _, hbW.trans ((hb1.trans (hb2.mono hb1.size)).mono hbW.size)⟩
    · have hr : applyH l e d = (0, others (active l d) e.path) := by unfold applyH; rw [if_neg h5, if_pos h6, if_neg hlen]
      have HR := Lib.hid hr
      have hq : (((others (active l d) e.path).length : Int) == ((active l d).length : Int)) = false := beq_eq_false_iff_ne.2 (by omega)
      rw [h6] at d0 hW ⊢
      generalize others (active l d) e.path = os at *
      generalize active l d = bs at *
      clear hl hal ho hr h5 h6 hlen hn
      go_enter Tryz.func61, Tryz.ntmps61
      go_wp2_with fail
      refine HA.out.mono ?_
      rintro en w1 ⟨v1, rfl, ho1, hb1⟩
      have HC := Lib.hid (HS.out v1 w1 hb1 (ho1.flat holdC_len))
      obtain ⟨a1, c1, rfl, _, _⟩ := ho1.form
      have d0 := (hb1.cell (p := ⟨w.heap.size, 0, none⟩) hlw).trans d0
      clear ho1
      go_wp2_with fail
      refine HC.out.mono ?_
      rintro en w2 ⟨v2, rfl, ho2, hb2⟩
      obtain ⟨a2, c2, rfl, _, _⟩ := ho2.form
      have d0 := (hb2.cell (p := ⟨w.heap.size, 0, none⟩) (Nat.lt_of_lt_of_le hlw hb1.size)).trans d0
      have HO := Lib.hid (ho2.mono' (B' := w.heap.size) (by have := hbW.size; have := hb1.size; omega))
      clear ho2
      go_wp2_with fail
      go_ret2
      unfold HPostO
      rw [HR.out]
      exact ⟨_, rfl, HO.out, hbW.trans ((hb1.trans (hb2.mono hb1.size)).mono hbW.size)⟩
  · have hr : applyH l e d = (0, active l d) := by unfold applyH; rw [if_neg h5, if_neg h6]
    have HR := Lib.hid hr
    have e5 : (e.kind == 5) = false := beq_eq_false_iff_ne.2 h5
    have e6 : (e.kind == 6) = false := beq_eq_false_iff_ne.2 h6
    generalize others (active l d) e.path = os at *
    generalize active l d = bs at *
    clear hl hal ho hr h5 h6 hn
    go_enter Tryz.func61, Tryz.ntmps61
    go_wp2_with fail
    refine HA.out.mono ?_
    rintro en w1 ⟨v1, rfl, ho1, hb1⟩
    have HC := Lib.hid (HS.out v1 w1 hb1 (ho1.flat holdC_len))
    obtain ⟨a1, c1, rfl, _, _⟩ := ho1.form
    have d0 := (hb1.cell (p := ⟨w.heap.size, 0, none⟩) hlw).trans d0
    have HO := Lib.hid (ho1.mono' (B' := w.heap.size) hbW.size)
    clear ho1
    go_wp2_with fail
    refine HC.out.mono ?_
    rintro en w2 ⟨v2, rfl, ho2, hb2⟩
    obtain ⟨a2, c2, rfl, _, _⟩ := ho2.form
    have d0 := (hb2.cell (p := ⟨w.heap.size, 0, none⟩) (Nat.lt_of_lt_of_le hlw hb1.size)).trans d0
    clear ho2
    go_wp2_with fail
    go_ret2
    unfold HPostO
    rw [HR.out]
    exact ⟨_, rfl, HO.out.kept hb2, hbW.trans ((hb1.trans (hb2.mono hb1.size)).mono hbW.size)⟩
set_option maxHeartbeats 4000000 in
set_option maxRecDepth 100000 in
theorem happlyO_5 (hv v : Value) (l : List Hold) (e : Ent) (d : Int) (w : World) (hl : Holds w hv l) (hn : l.length ≤ 65535) (hev : EntV w v e) (h5 : e.kind = 5) (hg : Ground w) (hf : FitH l) (hP : e.path.length ≤ 16777216) (hT : e.target.length ≤ 16777216) :
    Calls Tryz.prog 61 #[hv, v, .int .i64 d] w (HPostO l e d w) := by
  obtain ⟨aa, ac, ea, ec, rfl, _, _⟩ := hev
  obtain ⟨W, hW, hbW, hzW, d0, d1, d2, d3, d4, d5, d6⟩ := ebox w e (.slice aa e.attrs.length ac) (.slice ea e.exts.length ec)
  have hlw : w.heap.size < W.heap.size := by omega
  have HA := Lib.hid (active_any hv l d W (hl.below hbW) (by omega))
  have hal := active_len l d
  have hol := others_len (active l d) e.path
  have HS := Lib.hid (fun (v : Value) (X : World) (hX : Below W.heap.size W X) (hv : Holds X v (active l d)) =>
    selected_any 101 (enters_of Tryz.func101 (by kernel_rfl) rfl) (.pointer (some ⟨w.heap.size, 0, none⟩)) (fun h => h.path != e.path) v (active l d) X hv (by omega) (fun Y h hY => happ1_any h e.path w.heap.size Y ((hY.cell (p := ⟨w.heap.size, 1, none⟩) (Nat.lt_of_lt_of_le hlw hX.size)).trans ((hX.cell (p := ⟨w.heap.size, 1, none⟩) hlw).trans d1))))
  have ho : ((active l d).filter fun h => h.path != e.path) = others (active l d) e.path := rfl
  rw [ho] at HS
  have hfo := (hf.active d).others e.path
  have HI := Lib.hid (fun (v : Value) (X : World) (hX : Below W.heap.size W X) (hv : Holds X v (others (active l d) e.path)) =>
    idxHold_any 103 (enters_of Tryz.func103 (by kernel_rfl) rfl) (.pointer (some ⟨w.heap.size, 0, none⟩)) (fun h => decide (0 < Path.cmp h.path e.path)) v (others (active l d) e.path) X hv (fun Y h hm hY => happ2_any h e.path w.heap.size Y ((hY.cell (p := ⟨w.heap.size, 1, none⟩) (Nat.lt_of_lt_of_le hlw hX.size)).trans ((hX.cell (p := ⟨w.heap.size, 1, none⟩) hlw).trans d1)) (hfo h hm) hP))
  have HD := Lib.hid (fun X (hX : Below W.heap.size W X) => dateOf_any e.target X ((hg.below hbW).below hX) hT)
  cases hd : (dateOf e.target).2 with
  | false =>
    have hr : applyH l e d = (3, []) := by unfold applyH; rw [if_pos h5, if_pos hd]
    have HR := Lib.hid hr
    rw [h5] at d0 hW ⊢
    rw [hd] at HD
    generalize (dateOf e.target).1 = u0 at *
    generalize others (active l d) e.path = os at *
    generalize active l d = bs at *
    clear hl hal ho hr h5 hn hol hfo hf hg hT hP hd
    go_enter Tryz.func61, Tryz.ntmps61
    go_wp2_with fail
    refine HA.out.mono ?_
    rintro en w1 ⟨v1, rfl, ho1, hb1⟩
    have HC := Lib.hid (HS.out v1 w1 hb1 (ho1.flat holdC_len))
    have d0 := (hb1.cell (p := ⟨w.heap.size, 0, none⟩) hlw).trans d0
    have d3 := (hb1.cell (p := ⟨w.heap.size, 3, none⟩) hlw).trans d3
    clear ho1
    go_wp2_with fail
    refine HC.out.mono ?_
    rintro en w2 ⟨v2, rfl, ho2, hb2⟩
    have hlw1 := Nat.lt_of_lt_of_le hlw hb1.size
    have d0 := (hb2.cell (p := ⟨w.heap.size, 0, none⟩) hlw1).trans d0
    have d3 := (hb2.cell (p := ⟨w.heap.size, 3, none⟩) hlw1).trans d3
    have hb12 := hb1.trans (hb2.mono hb1.size)
    have HDX := Lib.hid (HD.out w2 hb12)
    clear ho2
    go_wp2_with fail
    refine HDX.out.mono ?_
    rintro en w3 ⟨rfl, hb3⟩
    go_wp2_with fail
    go_ret2
    unfold HPostO
    rw [HR.out]
    exact ⟨_, rfl, OwnF.nil _ _, hbW.trans ((hb12.trans (hb3.mono hb12.size)).mono hbW.size)⟩
  | true =>
    have hr : applyH l e d = (0, insAt (others (active l d) e.path) (holdAt (others (active l d) e.path) e.path) ⟨e.path, latest (active l d) e.path (dateOf e.target).1⟩) := by unfold applyH; rw [if_pos h5, if_neg (by rw [hd]; decide)]
    have HR := Lib.hid hr
    obtain ⟨hle, hidx⟩ := holdAt_idx (others (active l d) e.path) e.path
    rw [h5] at d0 hW ⊢
    rw [hd] at HD
    generalize (dateOf e.target).1 = u0 at *
    generalize holdAt (others (active l d) e.path) e.path = at_ at *
    generalize idxO (List.findIdx? (fun h => decide (0 < Path.cmp h.path e.path)) (others (active l d) e.path)) = ix at *
    generalize others (active l d) e.path = os at *
    generalize active l d = bs at *
    have hnb : bs.length ≤ 65535 := by omega
    have hno : os.length ≤ 65535 := by omega
    have HIX := Lib.hid hidx
    have HLE := Lib.hid hle
    clear hl hal ho hr h5 hn hol hfo hf hg hT hP hd hidx hle
    go_enter Tryz.func61, Tryz.ntmps61
    go_wp2_with fail
    refine HA.out.mono ?_
    rintro en w1 ⟨v1, rfl, ho1, hb1⟩
    have HF1 := Lib.hid (ho1.flat holdC_len)
    have HC := Lib.hid (HS.out v1 w1 hb1 HF1.out)
    have d0 := (hb1.cell (p := ⟨w.heap.size, 0, none⟩) hlw).trans d0
    have d1 := (hb1.cell (p := ⟨w.heap.size, 1, none⟩) hlw).trans d1
    have d3 := (hb1.cell (p := ⟨w.heap.size, 3, none⟩) hlw).trans d3
    obtain ⟨a1, c1, rfl, hq1, hq2⟩ := ho1.form
    clear ho1
    go_wp2_with fail
    refine HC.out.mono ?_
    rintro en w2 ⟨v2, rfl, ho2, hb2⟩
    have hlw1 := Nat.lt_of_lt_of_le hlw hb1.size
    have d0 := (hb2.cell (p := ⟨w.heap.size, 0, none⟩) hlw1).trans d0
    have d1 := (hb2.cell (p := ⟨w.heap.size, 1, none⟩) hlw1).trans d1
    have d3 := (hb2.cell (p := ⟨w.heap.size, 3, none⟩) hlw1).trans d3
    have hb12 := hb1.trans (hb2.mono hb1.size)
    have HDX := Lib.hid (HD.out w2 hb12)
    have HO2 := Lib.hid ho2
    have HF12 := Lib.hid (HF1.out.below hb2)
    clear ho2
    go_wp2_with fail
    refine HDX.out.mono ?_
    rintro en w3 ⟨rfl, hb3⟩
    have hlw2 := Nat.lt_of_lt_of_le hlw hb12.size
    have d1 := (hb3.cell (p := ⟨w.heap.size, 1, none⟩) hlw2).trans d1
    have hb13 := hb12.trans (hb3.mono hb12.size)
    have hlw3 := Nat.lt_of_lt_of_le hlw hb13.size
    have HO3 := Lib.hid (HO2.out.kept hb3)
    have HF13 := Lib.hid (HF12.out.below hb3)
    go_wp2_with fail
    go_loopw [10, 35] (fun u i wr => ∃ k : Nat, k ≤ bs.length ∧ i = .int .i64 k ∧ u = .int .i64 (latest (bs.take k) e.path u0) ∧ Below w3.heap.size w3 wr) (fun _ i _ => bs.length - (intOf i).toNat)
    case atStart => exact ⟨0, Nat.zero_le _, rfl, rfl, Below.refl _ _⟩
    case round =>
      obtain ⟨k, hk, rfl, rfl, hb⟩ := hrel
      by_cases hlt : k < bs.length
      · obtain ⟨x, hx⟩ : ∃ x, bs[k]? = some x := ⟨_, List.getElem?_eq_getElem hlt⟩
        obtain ⟨bk, o, rfl, hcell⟩ := (HF13.out.below hb).get hx
        have c0 := hcell 0 _ rfl
        have c1 := hcell 1 _ rfl
        rw [Nat.add_zero] at c0
        have d1 := (hb.cell (p := ⟨w.heap.size, 1, none⟩) hlw3).trans d1
        obtain ⟨X, hX, hbX, hzX, x0, x1⟩ := hbox wr x
        have d1 := (hbX.cell (p := ⟨w.heap.size, 1, none⟩) (Nat.lt_of_lt_of_le hlw3 hb.size)).trans d1
        have HLT := Lib.hid (latest_take hx e.path u0)
        have hq := (show ((⟨x.path.toArray⟩ : ByteArray).toList == (⟨e.path.toArray⟩ : ByteArray).toList) = (x.path == e.path) by rw [Lib.toList_data, Lib.toList_data])
        have hbx := hb.trans (hbX.mono hb.size)
        generalize latest (bs.take k) e.path u0 = u at *
        have hmx : ∀ (ts : Array TypeId) (t : TypeId) (W : World), (Builtin.max_ ts t #[.int .i64 u, .int .i64 x.till]).run Tryz.prog W = .ok (.int .i64 (max u x.till)) W := fun ts t W => by rw [Lib.run_max_ints]
        clear hcell hx
        by_cases he : x.path = e.path
        · rw [if_pos he] at HLT
          rw [beq_iff_eq.2 he] at hq
          clear he
          generalize (⟨x.path.toArray⟩ : ByteArray) = XP at *
          generalize (⟨e.path.toArray⟩ : ByteArray) = EP at *
          go_upto_region 11 with (fail)
          try rw [hX]
          clear hX
          go_wp2_with fail
          go_roundw
          case rel => exact ⟨k + 1, by omega, by go_num, by rw [HLT.out], hbx⟩
          case measure => simp [intOf]; omega
        · rw [if_neg he] at HLT
          rw [beq_eq_false_iff_ne.2 he] at hq
          clear he
          generalize (⟨x.path.toArray⟩ : ByteArray) = XP at *
          generalize (⟨e.path.toArray⟩ : ByteArray) = EP at *
          go_upto_region 11 with (fail)
          try rw [hX]
          clear hX
          go_wp2_with fail
          go_roundw
          case rel => exact ⟨k + 1, by omega, by go_num, by rw [HLT.out], hbx⟩
          case measure => simp [intOf]; omega
      · obtain rfl : k = bs.length := by omega
        rw [List.take_length]
        generalize latest bs e.path u0 = u at *
        have d1 := (hb.cell (p := ⟨w.heap.size, 1, none⟩) hlw3).trans d1
        have hb14 := hb13.trans (hb.mono hb13.size)
        have HO4 := Lib.hid (HO3.out.kept hb)
        have HIC := Lib.hid (HI.out v2 wr hb14 (HO4.out.flat holdC_len))
        obtain ⟨a2, c2, rfl, hq3, hq4⟩ := HO4.out.form
        rcases HIX.out with ⟨hi0, rfl⟩ | ⟨hi0, rfl⟩
        · go_wp2_with fail
          refine HIC.out.mono ?_
          rintro en w5 ⟨rfl, hb5⟩
          have hb15 := hb14.trans (hb5.mono hb14.size)
          have HO5 := Lib.hid (HO4.out.kept hb5)
          have d1 := (hb5.cell (p := ⟨w.heap.size, 1, none⟩) (Nat.lt_of_lt_of_le hlw3 hb.size)).trans d1
          obtain ⟨X, hX, hbX, hzX, x0, x1⟩ := hbox w5 ⟨e.path, u⟩
          have hblk : X.heap[w5.heap.size]? = some (.cells (holdC ⟨e.path, u⟩).toArray 87 (0, 0)) := by rw [← hX]; exact heap_alloc_new w5 _
          have hs1 : w1.heap.size ≤ X.heap.size := by
            have h1 := (hb2.trans ((hb3.trans ((hb.trans (hb5.mono hb.size)).mono hb3.size)).mono hb2.size)).size
            omega
          have hins := ins_hold (.slice a2 os.length c2) os.length at_ w1.heap.size w5.heap.size (os.flatMap holdC) (holdC ⟨e.path, u⟩) X (HO5.out.kept hbX) HLE.out (by omega) rfl (fun z hz => by obtain ⟨y, _, hy⟩ := List.mem_flatMap.1 hz; exact holdC_one y z hy) (holdC_one _) hblk (fun hbk => absurd (HO5.out.lt _ hbk).2 (Nat.lt_irrefl _)) hs1
          have HINS := Lib.hid hins
          have hb16 := hb15.trans (hbX.mono hb15.size)
          clear hblk hins
          go_wp2_with fail
          refine HINS.out.mono ?_
          rintro en w7 ⟨v7, rfl, ho7, hb7⟩
          have HO7 : OwnH w7 w1.heap.size v7 (insAt os at_ ⟨e.path, u⟩) := by
            show World.ownsRow _ _ _ _ _ _ _
            rw [insAt_len os at_ _ HLE.out, insAt_flat holdC 2 holdC_len]
            exact ho7
          go_wp2_with fail
          go_ret2
          unfold HPostO
          rw [HR.out]
          exact ⟨_, rfl, HO7.mono' (by have := hbW.size; have := hb1.size; omega), hbW.trans ((hb16.trans (hb7.mono hb1.size)).mono hbW.size)⟩
        · go_wp2_with fail
          refine HIC.out.mono ?_
          rintro en w5 ⟨rfl, hb5⟩
          have hb15 := hb14.trans (hb5.mono hb14.size)
          have HO5 := Lib.hid (HO4.out.kept hb5)
          have d1 := (hb5.cell (p := ⟨w.heap.size, 1, none⟩) (Nat.lt_of_lt_of_le hlw3 hb.size)).trans d1
          obtain ⟨X, hX, hbX, hzX, x0, x1⟩ := hbox w5 ⟨e.path, u⟩
          have hblk : X.heap[w5.heap.size]? = some (.cells (holdC ⟨e.path, u⟩).toArray 87 (0, 0)) := by rw [← hX]; exact heap_alloc_new w5 _
          have hs1 : w1.heap.size ≤ X.heap.size := by
            have h1 := (hb2.trans ((hb3.trans ((hb.trans (hb5.mono hb.size)).mono hb3.size)).mono hb2.size)).size
            omega
          have hins := ins_hold (.slice a2 os.length c2) os.length os.length w1.heap.size w5.heap.size (os.flatMap holdC) (holdC ⟨e.path, u⟩) X (HO5.out.kept hbX) (Nat.le_refl _) (by omega) rfl (fun z hz => by obtain ⟨y, _, hy⟩ := List.mem_flatMap.1 hz; exact holdC_one y z hy) (holdC_one _) hblk (fun hbk => absurd (HO5.out.lt _ hbk).2 (Nat.lt_irrefl _)) hs1
          have HINS := Lib.hid hins
          have hb16 := hb15.trans (hbX.mono hb15.size)
          clear hblk hins
          go_wp2_with fail
          refine HINS.out.mono ?_
          rintro en w7 ⟨v7, rfl, ho7, hb7⟩
          have HO7 : OwnH w7 w1.heap.size v7 (insAt os os.length ⟨e.path, u⟩) := by
            show World.ownsRow _ _ _ _ _ _ _
            rw [insAt_len os os.length _ (Nat.le_refl _), insAt_flat holdC 2 holdC_len]
            exact ho7
          go_wp2_with fail
          go_ret2
          unfold HPostO
          rw [HR.out]
          exact ⟨_, rfl, HO7.mono' (by have := hbW.size; have := hb1.size; omega), hbW.trans ((hb16.trans (hb7.mono hb1.size)).mono hbW.size)⟩
theorem happlyO_any (hv v : Value) (l : List Hold) (e : Ent) (d : Int) (w : World) (hl : Holds w hv l) (hn : l.length ≤ 65535) (hev : EntV w v e) (hg : Ground w) (hf : FitH l) (hP : e.path.length ≤ 16777216) (hT : e.target.length ≤ 16777216) :
    Calls Tryz.prog 61 #[hv, v, .int .i64 d] w (HPostO l e d w) := by
  by_cases h5 : e.kind = 5
  · exact happlyO_5 hv v l e d w hl hn hev h5 hg hf hP hT
  · exact happlyO_no hv v l e d w hl (by omega) hev h5
end Go.Proofs.YtbhmdcdhklgomaaGreatDoor
