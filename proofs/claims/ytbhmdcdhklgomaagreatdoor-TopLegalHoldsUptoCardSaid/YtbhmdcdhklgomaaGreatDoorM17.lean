/-
  entry.content at a file.
-/
import Derived.Test.YtbhmdcdhklgomaaGreatDoorM16
import Derived.Test.YtbhmdcdhklgomaaGreatDoorM15
import Derived.BigQuiet
namespace Go.Proofs.YtbhmdcdhklgomaaGreatDoor
open Go.RowKit Top

theorem restGo_cons (r : Int) (x : Ext) (l : List Ext) : restGo r (x :: l) = if r < x.len then 1 else restGo (r - x.len) l := rfl
theorem drop_at {α : Type} {l : List α} {k : Nat} {x : α} (hx : l[k]? = some x) : l.drop k = x :: l.drop (k + 1) := by
  obtain ⟨hk, he⟩ := List.getElem?_eq_some_iff.1 hx
  rw [List.drop_eq_getElem_cons hk, he]
theorem any_at {α : Type} {p : α → Bool} {l : List α} {k : Nat} {x : α} (hx : l[k]? = some x) (hp : p x = true) : l.any p = true := List.any_eq_true.2 ⟨x, List.mem_of_getElem? hx, hp⟩

set_option maxHeartbeats 8000000 in
set_option maxRecDepth 100000 in
theorem content_1 (v : Value) (e : Ent) (w : World) (hev : EntV w v e) (h1 : e.kind = 1) :
    Calls Tryz.prog 121 #[v] w fun en w' => en = .returned (.int .i64 (contentErr e)) ∧ Below w.heap.size w w' := by
  obtain ⟨aa, ac, ea, ec, rfl, _, hex⟩ := hev
  obtain ⟨W, hW, hbW, hzW, d0, d1, d2, d3, d4, d5, d6⟩ := ebox w e (.slice aa e.attrs.length ac) (.slice ea e.exts.length ec)
  have hlw : w.heap.size < W.heap.size := by omega
  have hr : contentErr e = if e.size < 0 ∨ 65536 < e.size then 2 else if e.digest.length ≠ 32 then 1 else if e.exts.any extBad = true then 2 else restGo e.size e.exts := by
    unfold contentErr
    rw [if_pos h1, if_pos h1]
    by_cases h2 : e.size < 0 ∨ 65536 < e.size
    · rw [if_pos h2, if_pos h2]
    · rw [if_neg h2, if_neg h2]
      by_cases h3 : e.digest.length ≠ 32
      · rw [if_pos h3, if_pos h3]
      · rw [if_neg h3, if_neg h3, if_neg (fun h => h.1 h1)]
  have HR := Lib.hid hr
  have hz : (⟨e.digest.toArray⟩ : ByteArray).size = e.digest.length := by simp [ByteArray.size]
  have HEX := Lib.hid hex
  have hnm : e.exts.length ≤ 9223372036854775807 := by
    obtain ⟨_, _, _, hq1, hq2⟩ := hex.form
    omega
  rw [h1] at d0 hW ⊢
  clear hr hex h1 d1 d2 d3
  generalize contentErr e = res at *
  generalize (⟨e.digest.toArray⟩ : ByteArray) = D at *
  generalize e.digest.length = dn at *
  generalize e.size = sz at *
  by_cases hs : sz < 0 ∨ 65536 < sz
  · have HR : Hid (res = 2) := by
      show _ = _
      rw [HR.out, if_pos hs]
    clear hz HEX
    rcases hs with hs | hs
    · go_enter Tryz.func121, Tryz.ntmps121
      go_wp2_with fail
      go_ret
      exact ⟨by rw [HR.out]; rfl, hbW⟩
    · have hs' : ¬ sz < 0 := by omega
      go_enter Tryz.func121, Tryz.ntmps121
      go_wp2_with fail
      go_ret
      exact ⟨by rw [HR.out]; rfl, hbW⟩
  · rw [if_neg hs] at HR
    have hs1 : ¬ sz < 0 := by omega
    have hs2 : ¬ 65536 < sz := by omega
    clear hs
    by_cases hd : dn = 32
    · rw [if_neg (by omega)] at HR
      have hD : D.size = 32 := by omega
      clear hz hd
      go_enter Tryz.func121, Tryz.ntmps121
      go_wp2_with fail
      go_loopw [32] (fun i wr => ∃ k : Nat, k ≤ e.exts.length ∧ i = .int .i64 k ∧ Hid (∀ y ∈ e.exts.take k, extBad y = false) ∧ Below W.heap.size W wr) (fun i _ => e.exts.length - (intOf i).toNat)
      case atStart => exact ⟨0, Nat.zero_le _, rfl, fun y hy => by simp at hy, Below.refl _ _⟩
      case round =>
        obtain ⟨k, hk, rfl, hok, hb⟩ := hrel
        have d0 := (hb.cell (p := ⟨w.heap.size, 0, none⟩) hlw).trans d0
        have d4 := (hb.cell (p := ⟨w.heap.size, 4, none⟩) hlw).trans d4
        have d6 := (hb.cell (p := ⟨w.heap.size, 6, none⟩) hlw).trans d6
        have hbw := hbW.trans (hb.mono hbW.size)
        have hlr := Nat.lt_of_lt_of_le hlw hb.size
        by_cases hlt : k < e.exts.length
        · obtain ⟨x, hx⟩ : ∃ x, e.exts[k]? = some x := ⟨_, List.getElem?_eq_getElem hlt⟩
          have HE := Lib.hid (HEX.out.below hbw)
          obtain ⟨bk, o, rfl, hcell⟩ := HE.out.get hx
          have c0 := hcell 0 _ rfl
          have c1 := hcell 1 _ rfl
          have c2 := hcell 2 _ rfl
          rw [Nat.add_zero] at c0
          obtain ⟨X, hX, hbX, hzX, x0, x1, x2⟩ := xbox wr x
          have d0 := (hbX.cell (p := ⟨w.heap.size, 0, none⟩) hlr).trans d0
          have hbx := hbw.trans (hbX.mono hbw.size)
          have hbx' := hb.trans (hbX.mono hb.size)
          have HX := Lib.hid hx
          clear hcell hx
          rcases extBad_cases x with ⟨hbad, hc⟩ | ⟨hgood, a1, a2, a3, a4, a5, a6, hc⟩
          · have HR : Hid (res = 2) := by
              show _ = _
              rw [HR.out, if_pos (any_at HX.out hbad)]
            clear hbad
            rcases hc with a1 | ⟨a1, a2⟩ | ⟨a1, a2, a3⟩ | ⟨a1, a2, a3, a4⟩ | ⟨a1, a2, a3, a4, a5⟩ | ⟨a1, a2, a3, a4, a5, a6⟩ | ⟨a1, a2, a3, a4, a5, a6, a7, a8⟩
            all_goals
              go_upto_region 12 with (fail)
              try rw [hX]
              clear hX
              go_wp2_with fail
              go_ret
              exact ⟨by rw [HR.out]; rfl, hbx⟩
          · have HG := Lib.hid hgood
            clear hgood
            rcases hc with a7 | ⟨a7, a8⟩
            all_goals
              go_upto_region 12 with (fail)
              try rw [hX]
              clear hX
              go_wp2_with fail
              go_roundw
              case rel => exact ⟨k + 1, by omega, by go_num, take_allf hok.out HX.out HG.out, hbx'⟩
              case measure => simp [intOf]; omega
        · obtain rfl : k = e.exts.length := by omega
          have hall := hok.out
          rw [List.take_length] at hall
          have hany : e.exts.any extBad = false := by
            rw [List.any_eq_false]
            intro y hy
            rw [hall y hy]
            decide
          have HR : Hid (res = restGo sz e.exts) := by
            show _ = _
            rw [HR.out, if_neg (by rw [hany]; decide)]
          have HA := Lib.hid hall
          clear hall hany
          go_wp2_with fail
          go_loopw [5, 81] (fun r i wr' => ∃ (k : Nat) (q : Int), k ≤ e.exts.length ∧ i = .int .i64 k ∧ r = .int .i64 q ∧ 0 ≤ q ∧ q ≤ 65536 ∧ Hid (res = restGo q (e.exts.drop k)) ∧ Below wr.heap.size wr wr') (fun _ i _ => e.exts.length - (intOf i).toNat)
          case atStart => exact ⟨0, sz, Nat.zero_le _, rfl, rfl, by omega, by omega, HR.out, Below.refl _ _⟩
          case round =>
            obtain ⟨k, q, hk, rfl, rfl, hq0, hq1, hres, hb2⟩ := hrel
            have hbw2 := hbw.trans (hb2.mono hbw.size)
            by_cases hlt : k < e.exts.length
            · obtain ⟨x, hx⟩ : ∃ x, e.exts[k]? = some x := ⟨_, List.getElem?_eq_getElem hlt⟩
              have hgood := HA.out x (List.mem_of_getElem? hx)
              have HE := Lib.hid (HEX.out.below hbw2)
              obtain ⟨bk, o, rfl, hcell⟩ := HE.out.get hx
              have c0 := hcell 0 _ rfl
              have c1 := hcell 1 _ rfl
              have c2 := hcell 2 _ rfl
              rw [Nat.add_zero] at c0
              obtain ⟨X, hX, hbX, hzX, x0, x1, x2⟩ := xbox _ x
              have hbx := hbw2.trans (hbX.mono hbw2.size)
              have hbx' := hb2.trans (hbX.mono hb2.size)
              have hst := hres.out
              rw [drop_at hx, restGo_cons] at hst
              have hl1 : 1 ≤ x.len ∧ x.len ≤ 65536 := by
                rcases extBad_cases x with ⟨hbad, _⟩ | ⟨_, _, _, a3, a4, _⟩
                · rw [hgood] at hbad
                  cases hbad
                · omega
              clear hcell hx hgood
              by_cases hql : q < x.len
              · rw [if_pos hql] at hst
                have HS := Lib.hid hst
                clear hst
                go_upto_region 20 with (fail)
                try rw [hX]
                clear hX
                go_wp2_with fail
                go_ret
                exact ⟨by rw [HS.out]; rfl, hbx⟩
              · rw [if_neg hql] at hst
                have HS := Lib.hid hst
                clear hst
                go_upto_region 20 with (fail)
                try rw [hX]
                clear hX
                go_wp2_with fail
                go_roundw
                case rel => exact ⟨k + 1, q - x.len, by omega, by go_num, by go_num, by omega, by omega, HS.out, hbx'⟩
                case measure => simp [intOf]; omega
            · obtain rfl : k = e.exts.length := by omega
              have hst := hres.out
              rw [List.drop_length] at hst
              have hst : res = if q ≠ 0 then 1 else 0 := hst
              by_cases hq : q = 0
              · rw [if_neg (by omega)] at hst
                have HS := Lib.hid hst
                clear hst
                subst hq
                go_wp2_with fail
                go_ret
                exact ⟨by rw [HS.out]; rfl, hbw2⟩
              · rw [if_pos hq] at hst
                have HS := Lib.hid hst
                have e1 : (q == 0) = false := beq_eq_false_iff_ne.2 hq
                clear hst
                go_wp2_with fail
                go_ret
                exact ⟨by rw [HS.out]; rfl, hbw2⟩
    · have HR : Hid (res = 1) := by
        show _ = _
        rw [HR.out, if_pos hd]
      have q1 : (((D.size : Nat) : Int) == 32) = false := beq_eq_false_iff_ne.2 (by omega)
      clear hz hd HEX
      go_enter Tryz.func121, Tryz.ntmps121
      go_wp2_with fail
      go_ret
      exact ⟨by rw [HR.out]; rfl, hbW⟩
end Go.Proofs.YtbhmdcdhklgomaaGreatDoor

/-
  entry.content, whole; entry.Check under attribute.Check's contract.
-/
namespace Go.Proofs.YtbhmdcdhklgomaaGreatDoor
open Go.RowKit Top

theorem content_any (v : Value) (e : Ent) (w : World) (hev : EntV w v e) :
    Calls Tryz.prog 121 #[v] w fun en w' => en = .returned (.int .i64 (contentErr e)) ∧ Below w.heap.size w w' := by
  by_cases h1 : e.kind = 1
  · exact content_1 v e w hev h1
  · exact content_no v e w hev h1
/-- attribute.Check's contract. -/
def AttrAt : Prop := ∀ (av : Value) (l : List Attr) (X : World), Flat attrC 2 X av l → Calls Tryz.prog 119 #[av] X fun en w' => en = .returned (.int .i64 (attrsErr l)) ∧ Below X.heap.size X w'

set_option maxHeartbeats 3000000 in
set_option maxRecDepth 100000 in
theorem echeck_any (hat : AttrAt) (v : Value) (e : Ent) (w : World) (hev : EntV w v e) (hg : Ground w) (hP : e.path.length ≤ 16777216) (hT : e.target.length ≤ 16777216) :
    Calls Tryz.prog 85 #[v] w fun en w' => en = .returned (.int .i64 (entErr e)) ∧ Below w.heap.size w w' := by
  obtain ⟨aa, ac, ea, ec, rfl, hev1, hev2⟩ := hev
  obtain ⟨W, hW, hbW, hzW, d0, d1, d2, d3, d4, d5, d6⟩ := ebox w e (.slice aa e.attrs.length ac) (.slice ea e.exts.length ec)
  have hlw : w.heap.size < W.heap.size := by omega
  have HR : Hid (entErr e = if e.kind < 1 ∨ 6 < e.kind then 10
    else if Path.err e.path ≠ 0 then Path.err e.path
    else if e.path = [] ∧ e.kind ≠ 5 ∧ e.kind ≠ 6 then 1
    else if attrsErr e.attrs ≠ 0 then attrsErr e.attrs
    else if (e.attrs ≠ [] ∧ 3 < e.kind) ∨ targetOk e = false then 1
    else contentErr e) := by
    show _ = _
    rfl
  have hpe : Path.err (⟨e.path.toArray⟩ : ByteArray).data.toList = Path.err e.path := rfl
  have HPC := Lib.hid (fun X => pcheck_any ⟨e.path.toArray⟩ X (by show e.path.length < _; omega))
  rw [hpe] at HPC
  have HAT := Lib.hid (fun X (hX : Below w.heap.size w X) => hat _ _ X (hev1.below hX))
  have HV := fun X (hX : Below w.heap.size w X) => (show EntV X (.agg #[.int .i64 e.kind, .string ⟨e.path.toArray⟩, .slice aa e.attrs.length ac, .string ⟨e.target.toArray⟩, .int .i64 e.size, .string ⟨e.digest.toArray⟩, .slice ea e.exts.length ec]) e from ⟨aa, ac, ea, ec, rfl, hev1.below hX, hev2.below hX⟩)
  have HTG := Lib.hid (fun X (hX : Below w.heap.size w X) => target_any _ e X (HV X hX) (hg.below hX) hT)
  have HCN := Lib.hid (fun X (hX : Below w.heap.size w X) => content_any _ e X (HV X hX))
  have hp : ((⟨e.path.toArray⟩ : ByteArray).toList == []) = decide (e.path = []) := by
    rw [Lib.toList_data]
    cases e.path <;> rfl
  have hnl : e.attrs ≠ [] ↔ 0 < e.attrs.length := by rw [List.length_pos_iff]
  have HN := Lib.hid hnl
  clear hpe HV hev1 hev2 hg hP hT hnl hat
  generalize e.attrs.length = an at *
  generalize entErr e = res at *
  generalize Path.err e.path = pe at *
  generalize attrsErr e.attrs = az at *
  generalize targetOk e = tb at *
  generalize contentErr e = cz at *
  generalize (⟨e.path.toArray⟩ : ByteArray) = U at *
  by_cases hk : e.kind < 1 ∨ 6 < e.kind
  · have HS : Hid (res = 10) := by
      show _ = _
      rw [HR.out, if_pos hk]
    clear hp HR
    generalize e.kind = k at *
    rcases hk with hk | hk
    · go_enter Tryz.func85, Tryz.ntmps85
      go_wp2_with fail
      go_ret
      exact ⟨by rw [HS.out]; rfl, hbW⟩
    · have hk' : ¬ k < 1 := by omega
      go_enter Tryz.func85, Tryz.ntmps85
      go_wp2_with fail
      go_ret
      exact ⟨by rw [HS.out]; rfl, hbW⟩
  · rw [if_neg hk] at HR
    have k1 : ¬ e.kind < 1 := by omega
    have k2 : ¬ 6 < e.kind := by omega
    clear hk
    by_cases hpz : pe = 0
    · rw [if_neg (by omega)] at HR
      subst hpz
      by_cases hh : e.path = [] ∧ e.kind ≠ 5 ∧ e.kind ≠ 6
      · have HS : Hid (res = 1) := by
          show _ = _
          rw [HR.out, if_pos hh]
        rw [decide_eq_true hh.1] at hp
        have k5 : (e.kind == 5) = false := beq_eq_false_iff_ne.2 hh.2.1
        have k6 : (e.kind == 6) = false := beq_eq_false_iff_ne.2 hh.2.2
        have k5n : (e.kind != 5) = true := bne_iff_ne.2 hh.2.1
        have k6n : (e.kind != 6) = true := bne_iff_ne.2 hh.2.2
        have k5e : ¬ e.kind = 5 := hh.2.1
        have k6e : ¬ e.kind = 6 := hh.2.2
        clear hh HR
        generalize e.kind = k at *
        go_enter Tryz.func85, Tryz.ntmps85
        go_wp2_with fail
        refine (HPC.out _).mono ?_
        rintro en w1 ⟨rfl, hb1⟩
        have d0 := (hb1.cell (p := ⟨w.heap.size, 0, none⟩) hlw).trans d0
        have d1 := (hb1.cell (p := ⟨w.heap.size, 1, none⟩) hlw).trans d1
        go_wp2_with fail
        go_ret
        exact ⟨by rw [HS.out]; rfl, hbW.trans (hb1.mono hbW.size)⟩
      · rw [if_neg hh] at HR
        have hcs : (U.toList == []) = false ∨ ((U.toList == []) = true ∧ e.kind = 5) ∨ ((U.toList == []) = true ∧ e.kind = 6) := by
          rw [hp]
          by_cases h0 : e.path = []
          · by_cases h5 : e.kind = 5
            · exact .inr (.inl ⟨decide_eq_true h0, h5⟩)
            · by_cases h6 : e.kind = 6
              · exact .inr (.inr ⟨decide_eq_true h0, h6⟩)
              · exact absurd ⟨h0, h5, h6⟩ hh
          · exact .inl (decide_eq_false h0)
        clear hh hp
        generalize e.kind = k at *
        have hdec : (0 < an ∧ 3 < k) ∨ (an = 0 ∨ ((0 : Int) < (an : Int) ∧ ¬ 3 < k)) := by omega
        have HDEC := Lib.hid hdec
        clear hdec
        rcases hcs with s1 | ⟨s1, rfl⟩ | ⟨s1, rfl⟩
        all_goals
          go_enter Tryz.func85, Tryz.ntmps85
          go_wp2_with fail
          refine (HPC.out _).mono ?_
          rintro en w1 ⟨rfl, hb1⟩
          have cc := fun (i : Nat) (u : Value) (h : W.cell? ⟨w.heap.size, i, none⟩ = some u) => (hb1.cell (p := ⟨w.heap.size, i, none⟩) hlw).trans h
          have d0 := cc 0 _ d0
          have d1 := cc 1 _ d1
          have d2 := cc 2 _ d2
          have d3 := cc 3 _ d3
          have d4 := cc 4 _ d4
          have d5 := cc 5 _ d5
          have d6 := cc 6 _ d6
          clear cc
          have hbw1 := hbW.trans (hb1.mono hbW.size)
          have hlw1 := Nat.lt_of_lt_of_le hlw hb1.size
          have HAX := Lib.hid (HAT.out w1 hbw1)
          go_wp2_with fail
          refine HAX.out.mono ?_
          rintro en w2 ⟨rfl, hb2⟩
          have cc := fun (i : Nat) (u : Value) (h : w1.cell? ⟨w.heap.size, i, none⟩ = some u) => (hb2.cell (p := ⟨w.heap.size, i, none⟩) hlw1).trans h
          have d0 := cc 0 _ d0
          have d1 := cc 1 _ d1
          have d2 := cc 2 _ d2
          have d3 := cc 3 _ d3
          have d4 := cc 4 _ d4
          have d5 := cc 5 _ d5
          have d6 := cc 6 _ d6
          clear cc
          have hbw2 := hbw1.trans (hb2.mono hbw1.size)
          have hlw2 := Nat.lt_of_lt_of_le hlw1 hb2.size
          by_cases haz : az = 0
          · rw [if_neg (by omega)] at HR
            subst haz
            rcases HDEC.out with hn | hnc
            · rw [if_pos (.inl ⟨HN.out.2 hn.1, hn.2⟩)] at HR
              obtain ⟨hn1, hn2⟩ := hn
              have hn1' : (0 : Int) < (an : Int) := by omega
              go_wp2_with fail
              go_ret
              exact ⟨by rw [HR.out]; rfl, hbw2⟩
            · have HTX := Lib.hid (HTG.out w2 hbw2)
              cases tb
              · rw [if_pos (.inr rfl)] at HR
                rcases hnc with rfl | ⟨n1, n2⟩
                all_goals try (exfalso; omega)
                all_goals
                  go_wp2_with fail
                  refine HTX.out.mono ?_
                  rintro en w3 ⟨rfl, hb3⟩
                  go_wp2_with fail
                  go_ret
                  exact ⟨by rw [HR.out]; rfl, hbw2.trans (hb3.mono hbw2.size)⟩
              · rw [if_neg (by rintro (h | h) <;> first | (have h1 := HN.out.1 h.1; have h2 := h.2; omega) | cases h)] at HR
                rcases hnc with rfl | ⟨n1, n2⟩
                all_goals try (exfalso; omega)
                all_goals
                  go_wp2_with fail
                  refine HTX.out.mono ?_
                  rintro en w3 ⟨rfl, hb3⟩
                  have cc := fun (i : Nat) (u : Value) (h : w2.cell? ⟨w.heap.size, i, none⟩ = some u) => (hb3.cell (p := ⟨w.heap.size, i, none⟩) hlw2).trans h
                  have d0 := cc 0 _ d0
                  have d1 := cc 1 _ d1
                  have d2 := cc 2 _ d2
                  have d3 := cc 3 _ d3
                  have d4 := cc 4 _ d4
                  have d5 := cc 5 _ d5
                  have d6 := cc 6 _ d6
                  clear cc
                  have hbw3 := hbw2.trans (hb3.mono hbw2.size)
                  have HCX := Lib.hid (HCN.out w3 hbw3)
                  go_wp2_with fail
                  refine HCX.out.mono ?_
                  rintro en w4 ⟨rfl, hb4⟩
                  go_wp2_with fail
                  go_ret
                  exact ⟨by rw [HR.out]; rfl, hbw3.trans (hb4.mono hbw3.size)⟩
          · rw [if_pos (by omega)] at HR
            have e0 : (az != 0) = true := bne_iff_ne.2 haz
            go_wp2_with fail
            go_ret
            exact ⟨by rw [HR.out]; rfl, hbw2⟩
    · rw [if_pos (by omega)] at HR
      have e0 : (pe != 0) = true := bne_iff_ne.2 hpz
      clear hp
      generalize e.kind = k at *
      go_enter Tryz.func85, Tryz.ntmps85
      go_wp2_with fail
      refine (HPC.out _).mono ?_
      rintro en w1 ⟨rfl, hb1⟩
      go_wp2_with fail
      go_ret
      exact ⟨by rw [HR.out]; rfl, hbW.trans (hb1.mono hbW.size)⟩
end Go.Proofs.YtbhmdcdhklgomaaGreatDoor

/-
  attribute.key.
-/
namespace Go.Proofs.YtbhmdcdhklgomaaGreatDoor
open Go.RowKit Top

set_option maxHeartbeats 2000000 in
set_option maxRecDepth 100000 in
theorem key_small (l : Bs) (w : World) (hl : l.length ≤ 16777216) :
    Calls Tryz.prog 177 #[.string ⟨l.toArray⟩] w fun e w' => e = .returned (.int .i64 (keyErr l)) ∧ Below w.heap.size w w' := by
  have hs : (⟨l.toArray⟩ : ByteArray).size = l.length := rfl
  have ht := Any.strings_Trim_laid Tryz.lays160 (by kernel_rfl) ⟨l.toArray⟩ ⟨#[97, 98, 99, 100, 101, 102, 103, 104, 105, 106, 107, 108, 109, 110, 111, 112, 113, 114, 115, 116, 117, 118, 119, 120, 121, 122, 48, 49, 50, 51, 52, 53, 54, 55, 56, 57, 46, 95, 45]⟩ w (by omega) (by decide) (ascii_of_all (by decide))
  have HT := Lib.hid ht
  clear ht
  have he : ((⟨l.toArray⟩ : ByteArray).toList == []) = decide (l = []) := by
    rw [Lib.toList_data]
    cases l <;> rfl
  have htr : ((⟨(Lib.trimS (⟨l.toArray⟩ : ByteArray).data.toList (⟨#[97, 98, 99, 100, 101, 102, 103, 104, 105, 106, 107, 108, 109, 110, 111, 112, 113, 114, 115, 116, 117, 118, 119, 120, 121, 122, 48, 49, 50, 51, 52, 53, 54, 55, 56, 57, 46, 95, 45]⟩ : ByteArray).data.toList).toArray⟩ : ByteArray).toList == []) = l.all (fun c => keySet.contains c) := by
    rw [Lib.toList_data]
    show (Lib.trimS l keySet == []) = _
    rw [Bool.eq_iff_iff, beq_iff_eq]
    exact Cells.trim_nil ..
  generalize (⟨(Lib.trimS (⟨l.toArray⟩ : ByteArray).data.toList (⟨#[97, 98, 99, 100, 101, 102, 103, 104, 105, 106, 107, 108, 109, 110, 111, 112, 113, 114, 115, 116, 117, 118, 119, 120, 121, 122, 48, 49, 50, 51, 52, 53, 54, 55, 56, 57, 46, 95, 45]⟩ : ByteArray).data.toList).toArray⟩ : ByteArray) = TT at *
  have HR : Hid (keyErr l = if l = [] ∨ 32 < l.length ∨ ¬ l.all (fun c => keySet.contains c) = true then 7 else 0) := by
    show _ = _
    rfl
  generalize keyErr l = res at *
  generalize l.length = n at *
  by_cases h0 : l = []
  · rw [if_pos (.inl h0)] at HR
    rw [decide_eq_true h0] at he
    clear htr h0
    generalize (⟨l.toArray⟩ : ByteArray) = U at *
    go_enter Tryz.func177, Tryz.ntmps177
    go_wp2_with fail
    go_ret
    exact ⟨by rw [HR.out]; rfl, Below.refl _ _⟩
  · rw [decide_eq_false h0] at he
    by_cases h1 : 32 < n
    · rw [if_pos (.inr (.inl h1))] at HR
      clear htr h0
      generalize (⟨l.toArray⟩ : ByteArray) = U at *
      have q : (32 : Int) < (U.size : Nat) := by omega
      go_enter Tryz.func177, Tryz.ntmps177
      go_wp2_with fail
      go_ret
      exact ⟨by rw [HR.out]; rfl, Below.refl _ _⟩
    · cases h2 : l.all (fun c => keySet.contains c) with
      | true =>
        rw [h2] at htr
        rw [if_neg (by rintro (h | h | h); exact h0 h; exact h1 h; exact h h2)] at HR
        clear h0 h2
        generalize (⟨l.toArray⟩ : ByteArray) = U at *
        have q : ¬ (32 : Int) < (U.size : Nat) := by omega
        go_enter Tryz.func177, Tryz.ntmps177
        go_wp2_with fail
        refine HT.out.mono ?_
        rintro e w' ⟨rfl, hb⟩
        go_wp2_with fail
        go_ret
        exact ⟨by rw [HR.out]; rfl, hb⟩
      | false =>
        rw [h2] at htr
        rw [if_pos (.inr (.inr (by rw [h2]; decide)))] at HR
        clear h0 h2
        generalize (⟨l.toArray⟩ : ByteArray) = U at *
        have q : ¬ (32 : Int) < (U.size : Nat) := by omega
        go_enter Tryz.func177, Tryz.ntmps177
        go_wp2_with fail
        refine HT.out.mono ?_
        rintro e w' ⟨rfl, hb⟩
        go_wp2_with fail
        go_ret
        exact ⟨by rw [HR.out]; rfl, hb⟩

set_option maxHeartbeats 2000000 in
set_option maxRecDepth 100000 in
theorem key_any (l : Bs) (w : World) :
    Calls Tryz.prog 177 #[.string ⟨l.toArray⟩] w fun e w' => e = .returned (.int .i64 (keyErr l)) ∧ Below w.heap.size w w' := by
  by_cases hl : l.length ≤ 16777216
  · exact key_small l w hl
  have hs : (⟨l.toArray⟩ : ByteArray).size = l.length := rfl
  have h0 : l ≠ [] := by rintro rfl; simp at hl
  have he : ((⟨l.toArray⟩ : ByteArray).toList == []) = false := by
    rw [Lib.toList_data]
    exact beq_eq_false_iff_ne.2 h0
  rw [show keyErr l = 7 from if_pos (.inr (.inl (by omega)))]
  generalize (⟨l.toArray⟩ : ByteArray) = U at *
  have q : (32 : Int) < (U.size : Nat) := by omega
  clear hl h0 hs
  go_enter Tryz.func177, Tryz.ntmps177
  go_wp2_with fail
  go_ret
  exact ⟨rfl, Below.refl _ _⟩
end Go.Proofs.YtbhmdcdhklgomaaGreatDoor

/-
  attribute.attr.
-/
namespace Go.Proofs.YtbhmdcdhklgomaaGreatDoor
open Go.RowKit Top

set_option maxHeartbeats 2000000 in
set_option maxRecDepth 100000 in
theorem attr_any (a : Attr) (w : World) :
    Calls Tryz.prog 146 #[.agg #[.string ⟨a.key.toArray⟩, .string ⟨a.val.toArray⟩]] w fun e w' => e = .returned (.int .i64 (attrErr a)) ∧ Below w.heap.size w w' := by
  have h := heap_alloc_new w (.cells #[.string ⟨a.key.toArray⟩, .string ⟨a.val.toArray⟩] 81)
  have d0 := tcell h 0 _ rfl
  have d1 := tcell h 1 _ rfl
  have hbW := (Below.refl _ w).alloc (Nat.le_refl _) (.cells #[.string ⟨a.key.toArray⟩, .string ⟨a.val.toArray⟩] 81)
  have hsz : w.heap.size < (w.alloc (.cells #[.string ⟨a.key.toArray⟩, .string ⟨a.val.toArray⟩] 81)).heap.size := by simp
  have HK := Lib.hid (fun X => key_any a.key X)
  have hs : (⟨a.val.toArray⟩ : ByteArray).size = a.val.length := rfl
  have HR : Hid (attrErr a = if keyErr a.key ≠ 0 then keyErr a.key else if 64 < a.val.length then 6 else 0) := by
    show _ = _
    rfl
  generalize attrErr a = res at *
  generalize keyErr a.key = z at *
  generalize a.val.length = n at *
  clear h
  generalize (⟨a.key.toArray⟩ : ByteArray) = U at *
  generalize (⟨a.val.toArray⟩ : ByteArray) = V at *
  generalize hW : w.alloc (.cells #[.string U, .string V] 81) = W at *
  go_enter Tryz.func146, Tryz.ntmps146
  go_wp2_with fail
  refine (HK.out _).mono ?_
  rintro e w1 ⟨rfl, hb1⟩
  have d1 := (hb1.cell (p := ⟨w.heap.size, 1, none⟩) hsz).trans d1
  have hbw := hbW.trans (hb1.mono hbW.size)
  by_cases hz : z = 0
  · subst hz
    rw [if_neg (by omega)] at HR
    by_cases hn : 64 < n
    · rw [if_pos hn] at HR
      have q : (64 : Int) < (V.size : Nat) := by omega
      go_wp2_with fail
      go_ret
      exact ⟨by rw [HR.out]; rfl, hbw⟩
    · rw [if_neg hn] at HR
      have q : ¬ (64 : Int) < (V.size : Nat) := by omega
      go_wp2_with fail
      go_ret
      exact ⟨by rw [HR.out]; rfl, hbw⟩
  · rw [if_pos hz] at HR
    have e0 : (z != 0) = true := bne_iff_ne.2 hz
    go_wp2_with fail
    go_ret
    exact ⟨by rw [HR.out]; rfl, hbw⟩
end Go.Proofs.YtbhmdcdhklgomaaGreatDoor

/-
  strings.Compare's value in the plain words of the paths.
-/
namespace Go.Proofs.YtbhmdcdhklgomaaGreatDoor
open Go.RowKit Top

theorem compareBytes_cmpE : ∀ a b : List UInt8, Lib.compareBytes a b = Path.cmpE a b
  | [], [] => rfl
  | [], _ :: _ => rfl
  | _ :: _, [] => rfl
  | a :: xs, b :: ys => by
    have ih := compareBytes_cmpE xs ys
    unfold Path.cmpE at ih ⊢
    show (if a < b then -1 else if b < a then 1 else Lib.compareBytes xs ys) = _
    rw [ih]
    simp only [Op.bytesLess]
    by_cases h1 : a < b
    · simp [h1]
    · by_cases h2 : b < a
      · have hne : ¬ a = b := fun h => h1 (h ▸ h2)
        simp [h1, h2, hne]
      · have : a = b := UInt8.le_antisymm (UInt8.not_lt.1 h2) (UInt8.not_lt.1 h1)
        subst this
        simp
end Go.Proofs.YtbhmdcdhklgomaaGreatDoor

/-
  attribute.Check; entry.Check.
-/
namespace Go.Proofs.YtbhmdcdhklgomaaGreatDoor
open Go.RowKit Top

def prevK (l : List Top.Attr) (k : Nat) : Option Bs := if k = 0 then none else (l[k - 1]?).map (·.key)
theorem prevK_succ {l : List Top.Attr} {k : Nat} {x : Top.Attr} (h : l[k]? = some x) : prevK l (k + 1) = some x.key := by
  unfold prevK
  simp [h]
theorem attrsGo_bad (o : Option Bs) {a : Top.Attr} (l : List Top.Attr) (h : attrErr a ≠ 0) : attrsGo o (a :: l) = attrErr a := by
  cases o with
  | none => show (if attrErr a ≠ 0 then attrErr a else _) = _; rw [if_pos h]
  | some k => show (if attrErr a ≠ 0 then attrErr a else _) = _; rw [if_pos h]
theorem drop_of {α : Type} {l : List α} {k : Nat} {x : α} (h : l[k]? = some x) : l.drop k = x :: l.drop (k + 1) := by
  obtain ⟨hl, rfl⟩ := List.getElem?_eq_some_iff.1 h
  exact List.drop_eq_getElem_cons hl
theorem abox (w : World) (a : Top.Attr) : ∃ W, w.alloc (.cells #[.string ⟨a.key.toArray⟩, .string ⟨a.val.toArray⟩] 81) = W ∧ Below w.heap.size w W ∧ W.heap.size = w.heap.size + 1 ∧
    W.cell? ⟨w.heap.size, 0, none⟩ = some (.string ⟨a.key.toArray⟩) ∧ W.cell? ⟨w.heap.size, 1, none⟩ = some (.string ⟨a.val.toArray⟩) := by
  have e := heap_alloc_new w (.cells #[.string ⟨a.key.toArray⟩, .string ⟨a.val.toArray⟩] 81)
  exact ⟨_, rfl, (Below.refl _ w).alloc (Nat.le_refl _) _, by simp, tcell e 0 _ rfl, tcell e 1 _ rfl⟩

set_option maxHeartbeats 3000000 in
set_option maxRecDepth 100000 in
theorem attrAt : AttrAt := by
  intro av l w hl
  obtain ⟨ao, hc, rfl, hlc, hcm⟩ := hl.form
  by_cases h16 : 16 < l.length
  · have HR : Hid (attrsErr l = 6) := by
      show _ = _
      exact if_pos h16
    generalize attrsErr l = res at *
    have h16' : (16 : Int) < (l.length : Nat) := by omega
    clear hl
    generalize l.length = n at *
    go_enter Tryz.func119, Tryz.ntmps119
    go_wp2_with fail
    go_ret
    exact ⟨by rw [HR.out]; rfl, Below.refl _ _⟩
  · have HR : Hid (attrsErr l = attrsGo none l) := by
      show _ = _
      exact if_neg h16
    generalize attrsErr l = res at *
    have HL := Lib.hid hl
    clear hl
    go_enter Tryz.func119, Tryz.ntmps119
    go_wp2_with fail
    go_loopw [11] (fun i wr => ∃ k : Nat, k ≤ l.length ∧ i = .int .i64 k ∧ Hid (res = attrsGo (prevK l k) (l.drop k)) ∧ Below w.heap.size w wr) (fun i _ => l.length - (intOf i).toNat)
    case atStart => exact ⟨0, Nat.zero_le _, rfl, HR, Below.refl _ _⟩
    case round =>
      obtain ⟨k, hk, rfl, hok, hb⟩ := hrel
      by_cases hlt : k < l.length
      · obtain ⟨x, hx⟩ : ∃ x, l[k]? = some x := ⟨_, List.getElem?_eq_getElem hlt⟩
        obtain ⟨bk, o, rfl, hcell⟩ := (HL.out.below hb).get hx
        have c0 := hcell 0 _ rfl
        have c1 := hcell 1 _ rfl
        rw [Nat.add_zero] at c0
        have HX := Lib.hid hx
        clear hcell hx
        obtain ⟨W, hW, hbW, hzW, d0, d1⟩ := abox wr x
        have HC := Lib.hid (attr_any x W)
        go_upto_region 6 with (fail)
        try rw [hW]
        clear hW
        go_wp2_with fail
        refine HC.out.mono ?_
        rintro e w1 ⟨rfl, hb1⟩
        have hlw : wr.heap.size < W.heap.size := by omega
        have d0 := (hb1.cell (p := ⟨wr.heap.size, 0, none⟩) hlw).trans d0
        have hbx := hb.trans ((hbW.trans (hb1.mono hbW.size)).mono hb.size)
        have hok2 := hok.out
        rw [drop_of HX.out] at hok2
        obtain ⟨z, hz⟩ : ∃ z, attrErr x = z := ⟨_, rfl⟩
        rw [hz]
        by_cases hz0 : z = 0
        · rcases Nat.eq_zero_or_pos k with rfl | hkp
          · have hst : Hid (res = attrsGo (prevK l 1) (l.drop 1)) := by
              show _ = _
              rw [hok2, prevK_succ HX.out]
              show (if attrErr x ≠ 0 then attrErr x else attrsGo (some x.key) (l.drop 1)) = _
              rw [hz, if_neg (by omega)]
            clear hok2 hok hz
            subst hz0
            go_wp2_with fail
            go_roundw
            case rel => exact ⟨1, by omega, by go_num, hst, hbx⟩
            case measure => simp [intOf]; omega
          · obtain ⟨j, rfl⟩ : ∃ j, k = j + 1 := ⟨k - 1, by omega⟩
            obtain ⟨y, hy⟩ : ∃ y, l[j]? = some y := ⟨_, List.getElem?_eq_getElem (by omega)⟩
            obtain ⟨bk', o', e', hcell⟩ := (HL.out.below hbx).get hy
            injection e' with e'
            injection e' with e1 e2
            subst e1 e2
            have y0 := hcell 0 _ rfl
            rw [Nat.add_zero] at y0
            rw [prevK_succ hy] at hok2
            have hst : Hid (res = if Path.cmpE y.key x.key = 0 then 8 else if Path.cmpE y.key x.key = 1 then 14 else attrsGo (prevK l (j + 1 + 1)) (l.drop (j + 1 + 1))) := by
              show _ = _
              rw [hok2, prevK_succ HX.out]
              show (if attrErr x ≠ 0 then attrErr x else _) = _
              rw [hz, if_neg (by omega)]
            clear hok2 hok hz hcell hy
            subst hz0
            have hcp : ∀ X : World, Calls Tryz.prog 147 #[.string ⟨y.key.toArray⟩, .string ⟨x.key.toArray⟩] X fun e w' => e = .returned (.int .i64 (Path.cmpE y.key x.key)) ∧ ∃ n, w' = X.drewN n := fun X => by
              refine (Any.strings_Compare Tryz.lays106 ⟨y.key.toArray⟩ ⟨x.key.toArray⟩ X).mono ?_
              rintro e w' ⟨rfl, rfl⟩
              exact ⟨by rw [compareBytes_cmpE], 0, rfl⟩
            have HCP := Lib.hid hcp
            clear hcp
            obtain ⟨cz, hcz⟩ : ∃ cz, Path.cmpE y.key x.key = cz := ⟨_, rfl⟩
            rw [hcz] at HCP hst
            clear hcz
            go_wp2_with fail
            go_quiet (exact Calls.quiet_of (HCP.out _))
            have hbq := below_drewN hbx nq
            generalize w1.drewN nq = w2 at *
            by_cases z0 : cz = 0
            · have HS : Hid (res = 8) := by
                show _ = _
                rw [hst.out, if_pos z0]
              subst z0
              go_wp2_with fail
              go_ret
              exact ⟨by rw [HS.out]; rfl, hbq⟩
            · by_cases z1 : cz = 1
              · have HS : Hid (res = 14) := by
                  show _ = _
                  rw [hst.out, if_neg z0, if_pos z1]
                subst z1
                go_wp2_with fail
                go_ret
                exact ⟨by rw [HS.out]; rfl, hbq⟩
              · have HS : Hid (res = attrsGo (prevK l (j + 1 + 1)) (l.drop (j + 1 + 1))) := by
                  show _ = _
                  rw [hst.out, if_neg z0, if_neg z1]
                have e0 : (cz == 0) = false := beq_eq_false_iff_ne.2 z0
                have e1 : (cz == 1) = false := beq_eq_false_iff_ne.2 z1
                clear hst
                go_wp2_with fail
                go_roundw
                case rel => exact ⟨j + 1 + 1, by omega, by go_num, HS, hbq⟩
                case measure => simp [intOf]; omega
        · have hst : res = z := by
            rw [hok2, attrsGo_bad _ _ (by rw [hz]; exact hz0), hz]
          have HS := Lib.hid hst
          clear hst hok2 hok hz
          have e0 : (z != 0) = true := bne_iff_ne.2 hz0
          go_wp2_with fail
          go_ret
          exact ⟨by rw [HS.out]; rfl, hbx⟩
      · obtain rfl : k = l.length := by omega
        have h := hok.out
        rw [List.drop_length] at h
        have h0 : res = 0 := by
          rw [h]
          cases prevK l l.length <;> rfl
        have HS := Lib.hid h0
        clear h h0
        go_wp2_with fail
        go_ret
        exact ⟨by rw [HS.out]; rfl, hb⟩
/-- entry.Check. -/
theorem check_any (v : Value) (e : Ent) (w : World) (hev : EntV w v e) (hg : Ground w) (hP : e.path.length ≤ 16777216) (hT : e.target.length ≤ 16777216) :
    Calls Tryz.prog 85 #[v] w fun en w' => en = .returned (.int .i64 (entErr e)) ∧ Below w.heap.size w w' := echeck_any attrAt v e w hev hg hP hT
end Go.Proofs.YtbhmdcdhklgomaaGreatDoor
