/-
  slices.DeleteFunc of a row of entries of the call's own: the walk.
-/
import Derived.Test.YtbhmdcdhklgomaaGreatDoorM12
import Derived.Test.YtbhmdcdhklgomaaGreatDoorM08
namespace Go.Proofs.YtbhmdcdhklgomaaGreatDoor
open Go.RowKit Top

theorem row_kept {w w' : World} {B : Nat} {E : TypeId} {k n : Nat} {v : Value} {xs : List Value} (h : w.ownsRow B E k v n xs) (hb : Below w.heap.size w w') : w'.ownsRow B E k v n xs := by
  have hg : w.grownBy w' none := ⟨hb.os, hb.tape, hb.output, hb.size, fun k hk _ => hb.block k hk⟩
  refine World.ownsRow.kept h hg ?_
  cases hv : v.ownBlock
  · exact .inl rfl
  · exact .inr (by simp)
theorem all2_snoc {α β : Type} {R : α → β → Prop} {xs : List α} {ys : List β} {x : α} {y : β} (h : All2 R xs ys) (hxy : R x y) : All2 R (xs ++ [x]) (ys ++ [y]) := by
  refine ⟨by rw [List.length_append, List.length_append, h.1]; rfl, fun j a b ha hb => ?_⟩
  rcases Nat.lt_or_ge j xs.length with hl | hl
  · rw [List.getElem?_append_left hl] at ha
    rw [List.getElem?_append_left (by rw [← h.1]; exact hl)] at hb
    exact h.2 j a b ha hb
  · rw [List.getElem?_append_right hl] at ha
    rw [List.getElem?_append_right (by rw [← h.1]; exact hl), ← h.1] at hb
    have hj : j - xs.length < 1 := (List.getElem?_eq_some_iff.1 ha).1
    have hj0 : j - xs.length = 0 := by omega
    rw [hj0] at ha hb
    obtain rfl : x = a := by simpa using ha
    obtain rfl : y = b := by simpa using hb
    exact hxy
theorem all2_take {α β : Type} {R : α → β → Prop} {xs : List α} {ys : List β} (h : All2 R xs ys) (k : Nat) : All2 R (xs.take k) (ys.take k) := by
  refine ⟨by rw [List.length_take, List.length_take, h.1], fun j a b ha hb => ?_⟩
  rw [List.getElem?_take] at ha hb
  split at ha
  · rename_i hjk
    rw [if_pos hjk] at hb
    exact h.2 j a b ha hb
  · cases ha
theorem filter_first {α : Type} {p : α → Bool} {l : List α} {i : Nat} (h : l.findIdx? p = some i) : ∃ x, l[i]? = some x ∧ p x = true ∧ (l.take (i + 1)).filter (fun x => !p x) = l.take i := by
  rw [List.findIdx?_eq_some_iff_getElem] at h
  obtain ⟨hl, hp, hb⟩ := h
  refine ⟨l[i], List.getElem?_eq_getElem hl, hp, ?_⟩
  rw [List.take_add_one, List.getElem?_eq_getElem hl, List.filter_append, Option.toList_some, List.filter_cons_of_neg (by rw [hp]; decide), List.filter_nil, List.append_nil, List.filter_eq_self]
  intro x hx
  obtain ⟨j, hj⟩ := List.mem_iff_getElem?.1 hx
  rw [List.getElem?_take] at hj
  split at hj
  · rename_i hji
    obtain ⟨hjl, rfl⟩ := List.getElem?_eq_some_iff.1 hj
    have := hb j hji
    simpa using this
  · cases hj
/-- What has been kept so far, in the row's beginning; what has not been looked at, where it was. -/
def DelInv (R : World) (p : Ent → Bool) (l : List Ent) (vss cur : List (List Value)) (i j : Nat) : Prop :=
  cur.length = l.length ∧ (∀ x ∈ cur, x.length = 7) ∧ All2 (EntC R) (cur.take i) ((l.take j).filter fun x => !p x) ∧ cur.drop j = vss.drop j
theorem DelInv.skip {R : World} {p : Ent → Bool} {l : List Ent} {vss cur : List (List Value)} {i j : Nat} {x : Ent} (h : DelInv R p l vss cur i j) (hx : l[j]? = some x) (hp : p x = true) : DelInv R p l vss cur i (j + 1) := by
  obtain ⟨h1, h2, h3, h4⟩ := h
  refine ⟨h1, h2, ?_, by rw [← List.drop_drop, ← List.drop_drop, h4]⟩
  rw [List.take_add_one, hx, List.filter_append, Option.toList_some, List.filter_cons_of_neg (by rw [hp]; decide), List.filter_nil, List.append_nil]
  exact h3
theorem DelInv.keep {R : World} {p : Ent → Bool} {l : List Ent} {vss cur : List (List Value)} {i j : Nat} {x : Ent} {vs : List Value} (h : DelInv R p l vss cur i j) (hij : i < j) (hx : l[j]? = some x) (hp : p x = false) (he : EntC R vs x) : DelInv R p l vss (cur.set i vs) (i + 1) (j + 1) := by
  obtain ⟨h1, h2, h3, h4⟩ := h
  have hjl := (List.getElem?_eq_some_iff.1 hx).1
  refine ⟨by rw [List.length_set]; exact h1, fun y hy => ?_, ?_, ?_⟩
  · rcases List.mem_or_eq_of_mem_set hy with h5 | rfl
    · exact h2 y h5
    · exact entC_len he
  · rw [List.take_add_one (l := l), hx, List.filter_append, Option.toList_some, List.filter_cons_of_pos (by rw [hp]; rfl), List.filter_nil]
    have e : (cur.set i vs).take (i + 1) = cur.take i ++ [vs] := by
      rw [List.take_add_one, List.take_set_of_le (Nat.le_refl _), List.getElem?_set, if_pos rfl, if_pos (by omega)]
      rfl
    rw [e]
    exact all2_snoc h3 he
  · rw [List.drop_set_of_lt (by omega), ← List.drop_drop, ← List.drop_drop, h4]
theorem DelInv.at_ {R : World} {p : Ent → Bool} {l : List Ent} {vss cur : List (List Value)} {i j : Nat} (h : DelInv R p l vss cur i j) : cur[j]? = vss[j]? := by
  have := congrArg (fun z => z[0]?) h.2.2.2
  simpa [List.getElem?_drop] using this

set_option maxHeartbeats 4000000 in
set_option maxRecDepth 100000 in
theorem delFunc_any (F : FuncId) (hE : Enters Tryz.prog F) (cp : Value) (p : Ent → Bool) (R : World) (v : Value) (l : List Ent) (w : World) (h : OwnEnts R w R.heap.size v l) (hb0 : Below R.heap.size R w) (hn : l.length ≤ 65536)
    (hF : ∀ X v x, x ∈ l → Below R.heap.size R X → EntV X v x → Calls Tryz.prog F #[v, cp] X fun e w' => e = .returned (.bool (p x)) ∧ Below X.heap.size X w') :
    Calls Tryz.prog 94 #[v, .func (.func F) #[] #[cp]] w fun en w' => ∃ v', en = .returned v' ∧ OwnEnts R w' R.heap.size v' (l.filter fun x => !p x) ∧ Below R.heap.size R w' := by
  have hread := h.read hb0
  have HI := Lib.hid (idxEntF_any F hE cp p v l w hread (fun W v x hx hW hv => hF W v x hx (hb0.trans (hW.mono hb0.size)) hv))
  cases hfi : l.findIdx? p with
  | none =>
    rw [hfi] at HI
    have hfil : (l.filter fun x => !p x) = l := by
      rw [List.filter_eq_self]
      intro x hx
      rw [List.findIdx?_eq_none_iff] at hfi
      rw [hfi x hx]
      rfl
    rw [hfil]
    have hx : idxO none = -1 := rfl
    rw [hx] at HI
    have HH := Lib.hid h
    clear h hread hF hfi hfil hx
    go_enter Tryz.func94, Tryz.ntmps94
    go_wp2_with fail
    refine HI.out.mono ?_
    rintro en w' ⟨rfl, hb⟩
    go_wp2_with fail
    go_ret
    obtain ⟨vss, h1, h2⟩ := HH.out
    exact ⟨_, rfl, ⟨vss, row_kept h1 hb, h2⟩, hb0.trans (hb.mono hb0.size)⟩
  | some i0 =>
    rw [hfi] at HI
    obtain ⟨x0, hx0, hp0, hf0⟩ := filter_first hfi
    have hi0 := (List.getElem?_eq_some_iff.1 hx0).1
    obtain ⟨vss, h1, h2⟩ := h
    obtain ⟨g, cap, rfl, hgB, hgl⟩ := World.ownsRow.form h1 (by omega)
    have hshape : l.length ≤ cap ∧ cap ≤ 9223372036854775807 := by
      rcases h1.2 with ⟨e, _⟩ | ⟨g', cap', cur, e, _, _, h3, h4, _⟩
      · cases e
      · injection e with _ _ e3
        subst e3
        exact ⟨h3, by unfold maxLen at h4; omega⟩
    obtain ⟨hlc, hcm⟩ := hshape
    have hx : idxO (some i0) = (i0 : Int) := rfl
    rw [hx] at HI
    have hinv0 : DelInv R p l vss vss i0 (i0 + 1) := ⟨h2.1, all2_lens h2, by rw [hf0]; exact all2_take h2 i0, rfl⟩
    have HINV := Lib.hid hinv0
    have HROW := Lib.hid h1
    have H2 := Lib.hid h2
    have HF := Lib.hid hF
    have hEn : ∀ (args : Array Value) (w : World), (callFunc F args).run Tryz.prog w = .ok (.enter F args) w := hE
    have q1 : ((i0 : Int) == -1) = false := beq_eq_false_iff_ne.2 (by omega)
    have q2 : IntKind.i64.wrap ((i0 : Int) + 1) = (i0 : Int) + 1 := IntWalk.i64_in _ (by omega)
    clear h1 h2 hF hE hread hfi hf0 hx0 hp0 hinv0 hx
    go_enter Tryz.func94, Tryz.ntmps94
    go_wp2_with fail
    refine HI.out.mono ?_
    rintro en w' ⟨rfl, hb⟩
    have hrow1 := row_kept HROW.out hb
    have HROW1 := Lib.hid hrow1
    have hbR := hb0.trans (hb.mono hb0.size)
    clear hrow1
    go_wp2_with fail
    go_loopw [5, 6] (fun a b wr => ∃ (i j : Nat) (cur : List (List Value)), i < j ∧ j ≤ l.length ∧ a = .int .i64 i ∧ b = .int .i64 j ∧ Hid (wr.ownsRow R.heap.size 43 7 (.slice (some ⟨g, 0, none⟩) l.length cap) l.length cur.flatten) ∧ Hid (DelInv R p l vss cur i j) ∧ Below R.heap.size R wr) (fun _ b _ => l.length - (intOf b).toNat)
    case atStart => exact ⟨i0, i0 + 1, vss, by omega, by omega, rfl, by go_num, HROW1.out, HINV.out, hbR⟩
    case round =>
      obtain ⟨i, j, cur, hij, hjn, rfl, rfl, hrow, hinv, hb1⟩ := hrel
      by_cases hlt : j < l.length
      · obtain ⟨x, hx⟩ : ∃ x, l[j]? = some x := ⟨_, List.getElem?_eq_getElem hlt⟩
        have hcl := hinv.out.1
        have hlen7 := hinv.out.2.1
        obtain ⟨vs, hvs⟩ : ∃ vs, vss[j]? = some vs := ⟨_, List.getElem?_eq_getElem (by have := H2.out.1; omega)⟩
        obtain ⟨aa, ac, ea, ec, rfl, ha, he⟩ := H2.out.2 j vs x hvs hx
        have hcj := hinv.out.at_.trans hvs
        obtain ⟨c0, c1, c2, c3, c4, c5, c6⟩ := row_elem hrow.out hlen7 hcj
        obtain ⟨W, hW, hbW, hzW, d0, d1, d2, d3, d4, d5, d6⟩ := ebox wr x (.slice aa x.attrs.length ac) (.slice ea x.exts.length ec)
        have hlw : wr.heap.size < W.heap.size := by omega
        have hbRW := hb1.trans (hbW.mono hb1.size)
        have HC := Lib.hid (HF.out W _ x (List.mem_of_getElem? hx) hbRW ⟨aa, ac, ea, ec, rfl, ha.below hbRW, he.below hbRW⟩)
        have HX := Lib.hid hx
        have HE2 : Hid (EntC R (entL x (.slice aa x.attrs.length ac) (.slice ea x.exts.length ec)) x) := ⟨aa, ac, ea, ec, rfl, ha, he⟩
        obtain ⟨bs, hbs⟩ : ∃ bs, cur[i]? = some bs := ⟨_, List.getElem?_eq_getElem (by omega)⟩
        obtain ⟨y0, y1, y2, y3, y4, y5, y6, rfl⟩ : ∃ y0 y1 y2 y3 y4 y5 y6, bs = [y0, y1, y2, y3, y4, y5, y6] := by
          have := hlen7 bs (List.mem_of_getElem? hbs)
          match bs, this with
          | [b0, b1, b2, b3, b4, b5, b6], _ => exact ⟨_, _, _, _, _, _, _, rfl⟩
        have HBS := Lib.hid hbs
        have HL7 := Lib.hid hlen7
        have HCL := Lib.hid hcl
        obtain ⟨b, hbp⟩ : ∃ b, p x = b := ⟨_, rfl⟩
        rw [hbp] at HC
        have HP := Lib.hid hbp
        have q3 : IntKind.i64.wrap ((i : Int) + 1) = (i : Int) + 1 := IntWalk.i64_in _ (by omega)
        have q4 : IntKind.i64.wrap ((j : Int) + 1) = (j : Int) + 1 := IntWalk.i64_in _ (by omega)
        have q5 : (i : Int) < (l.length : Int) := by omega
        clear hx ha he hvs hcj hbs hlen7 hcl hbp
        go_upto_region 8 with (fail)
        try rw [hW]
        clear hW
        go_wp2_with fail
        refine HC.out.mono ?_
        rintro en w1 ⟨rfl, hbw1⟩
        have hbx := hbW.trans (hbw1.mono hbW.size)
        have hrow2 := row_kept hrow.out hbx
        have HROW2 := Lib.hid hrow2
        have hbR1 := hb1.trans (hbx.mono hb1.size)
        cases b
        · obtain ⟨e0, e1, e2, e3, e4, e5, e6⟩ := row_elem hrow2 HL7.out HBS.out
          have z := fun k => row_free hrow2 k
          have z0 := z (i * 7)
          have z1 := z (i * 7 + 1)
          have z2 := z (i * 7 + 2)
          have z3 := z (i * 7 + 3)
          have z4 := z (i * 7 + 4)
          have z5 := z (i * 7 + 5)
          have z6 := z (i * 7 + 6)
          have d0 := (hbw1.cell (p := ⟨wr.heap.size, 0, none⟩) hlw).trans d0
          have d1 := (hbw1.cell (p := ⟨wr.heap.size, 1, none⟩) hlw).trans d1
          have d2 := (hbw1.cell (p := ⟨wr.heap.size, 2, none⟩) hlw).trans d2
          have d3 := (hbw1.cell (p := ⟨wr.heap.size, 3, none⟩) hlw).trans d3
          have d4 := (hbw1.cell (p := ⟨wr.heap.size, 4, none⟩) hlw).trans d4
          have d5 := (hbw1.cell (p := ⟨wr.heap.size, 5, none⟩) hlw).trans d5
          have d6 := (hbw1.cell (p := ⟨wr.heap.size, 6, none⟩) hlw).trans d6
          clear hrow2 z c0 c1 c2 c3 c4 c5 c6
          go_wp2_with fail
          go_roundw
          case rel =>
            have hnew := set7_own (a0 := .int .i64 x.kind) (a1 := .string ⟨x.path.toArray⟩) (a2 := .slice aa x.attrs.length ac) (a3 := .string ⟨x.target.toArray⟩) (a4 := .int .i64 x.size) (a5 := .string ⟨x.digest.toArray⟩) (a6 := .slice ea x.exts.length ec) HROW2.out HL7.out (i := i) (by have := HCL.out; omega)
            exact ⟨i + 1, j + 1, _, by omega, by omega, by go_num, by go_num, hnew, hinv.out.keep hij HX.out HP.out HE2.out, (((((((hbR1.setCell (p := ⟨g, i * 7, none⟩) hgB _).setCell (p := ⟨g, i * 7 + 1, none⟩) hgB _).setCell (p := ⟨g, i * 7 + 2, none⟩) hgB _).setCell (p := ⟨g, i * 7 + 3, none⟩) hgB _).setCell (p := ⟨g, i * 7 + 4, none⟩) hgB _).setCell (p := ⟨g, i * 7 + 5, none⟩) hgB _).setCell (p := ⟨g, i * 7 + 6, none⟩) hgB _)⟩
          case measure => simp [intOf]; omega
        · clear hrow2
          go_wp2_with fail
          go_roundw
          case rel => exact ⟨i, j + 1, cur, by omega, by omega, rfl, by go_num, HROW2.out, hinv.out.skip HX.out HP.out, hbR1⟩
          case measure => simp [intOf]; omega
      · obtain rfl : j = l.length := by omega
        obtain ⟨W1, hclr, hrow3, hb3⟩ := clear_any (c := cap - i) hrow.out hinv.out.1 hinv.out.2.1 hij
        have HROW3 := Lib.hid hrow3
        have q6 : ¬ cap = i := by omega
        have q7 : (i : Int) ≤ (l.length : Int) := by omega
        have q8 : (i : Int) ≤ (cap : Int) := by omega
        have q9 : i ≤ cap := by omega
        have q10 : i ≤ l.length := by omega
        clear hrow3
        go_wp2_with fail
        go_ret
        have h3 := hinv.out.2.2.1
        rw [List.take_length] at h3
        have hli : (cur.take i).length = i := by rw [List.length_take, hinv.out.1]; omega
        refine ⟨_, rfl, ⟨cur.take i, ?_, h3⟩, hb1.trans hb3⟩
        rw [← h3.1, hli]
        exact HROW3.out
end Go.Proofs.YtbhmdcdhklgomaaGreatDoor

/-
  slices.BinarySearchFunc of entries by their paths; the closures of dirtree.Apply.
-/
namespace Go.Proofs.YtbhmdcdhklgomaaGreatDoor
open Go.RowKit Top

theorem bsF_succ (lt : Nat → Bool) (f i j : Nat) : bsF lt (f + 1) i j = if i < j then (if lt ((i + j) / 2) then bsF lt f ((i + j) / 2 + 1) j else bsF lt f i ((i + j) / 2)) else i := rfl
theorem bsF_fuel (lt : Nat → Bool) : ∀ (f i j : Nat), j - i ≤ f → bsF lt f i j = bsF lt (j - i) i j := by
  intro f
  induction f using Nat.strongRecOn with
  | ind f ih =>
    intro i j h
    rcases Nat.lt_or_ge i j with hij | hij
    · obtain ⟨g, rfl⟩ : ∃ g, f = g + 1 := ⟨f - 1, by omega⟩
      obtain ⟨d, hd⟩ : ∃ d, j - i = d + 1 := ⟨j - i - 1, by omega⟩
      rw [hd, bsF_succ, bsF_succ, if_pos hij, if_pos hij]
      have e1 := ih g (by omega) ((i + j) / 2 + 1) j (by omega)
      have e2 := ih g (by omega) i ((i + j) / 2) (by omega)
      have e3 := ih d (by omega) ((i + j) / 2 + 1) j (by omega)
      have e4 := ih d (by omega) i ((i + j) / 2) (by omega)
      rw [e1, e2, e3, e4]
    · have hz : j - i = 0 := by omega
      rw [hz]
      cases f with
      | zero => rfl
      | succ f =>
        rw [bsF_succ, if_neg (by omega)]
        rfl
theorem bsF_step {lt : Nat → Bool} {i j : Nat} (h : i < j) : bsF lt (j - i) i j = if lt ((i + j) / 2) then bsF lt (j - ((i + j) / 2 + 1)) ((i + j) / 2 + 1) j else bsF lt ((i + j) / 2 - i) i ((i + j) / 2) := by
  obtain ⟨d, hd⟩ : ∃ d, j - i = d + 1 := ⟨j - i - 1, by omega⟩
  rw [hd, bsF_succ, if_pos h, bsF_fuel lt d _ j (by omega), bsF_fuel lt d i _ (by omega)]
def ltAt (t : List Ent) (p : Bs) (h : Nat) : Bool := match t[h]? with
  | some x => decide (Path.cmp x.path p < 0)
  | none => false
theorem place_def (t : List Ent) (p : Bs) : place t p = bsF (ltAt t p) t.length 0 t.length := rfl

set_option maxHeartbeats 1000000 in
set_option maxRecDepth 100000 in
theorem cmpc_any (v : Value) (e : Ent) (P : List UInt8) (w : World) (hv : EntV w v e) (h1 : e.path.length ≤ 16777216) (h2 : P.length ≤ 16777216) :
    Calls Tryz.prog 98 #[v, .string ⟨P.toArray⟩] w fun en w' => en = .returned (.int .i64 (Path.cmp e.path P)) ∧ Below w.heap.size w w' := by
  obtain ⟨aa, ac, ea, ec, rfl, _, _⟩ := hv
  obtain ⟨W, hW, hbW, hzW, d0, d1, d2, d3, d4, d5, d6⟩ := ebox w e (.slice aa e.attrs.length ac) (.slice ea e.exts.length ec)
  have HC := Lib.hid (fun X => pcompare_any ⟨e.path.toArray⟩ ⟨P.toArray⟩ X (by show e.path.length < _; omega) (by show P.length < _; omega))
  have hc : Path.cmp (⟨e.path.toArray⟩ : ByteArray).data.toList (⟨P.toArray⟩ : ByteArray).data.toList = Path.cmp e.path P := rfl
  rw [hc] at HC
  clear hc h1 h2
  generalize (⟨P.toArray⟩ : ByteArray) = U at *
  generalize (⟨e.path.toArray⟩ : ByteArray) = V at *
  go_enter Tryz.func98, Tryz.ntmps98
  go_wp2_with fail
  refine (HC.out _).mono ?_
  rintro en w' ⟨rfl, hb⟩
  go_wp2_with fail
  go_ret
  exact ⟨rfl, hbW.trans (hb.mono hbW.size)⟩
set_option maxHeartbeats 2000000 in
set_option maxRecDepth 100000 in
theorem bsearch_any (tv : Value) (t : List Ent) (P : List UInt8) (w : World) (ht : Ents w tv t) (hn : t.length ≤ 65536) (hp : P.length ≤ 16777216) (hpt : ∀ x ∈ t, x.path.length ≤ 16777216) :
    Calls Tryz.prog 97 #[tv, .string ⟨P.toArray⟩, .func (.func 98) #[] #[]] w fun en w' => ∃ b, en = .returned (.tuple #[.int .i64 (place t P), .bool b]) ∧ Below w.heap.size w w' := by
  obtain ⟨ao, cap, rfl, hlc, hcm⟩ := ht.form
  have HT := Lib.hid ht
  have HP := Lib.hid hpt
  have HPL := Lib.hid (place_def t P)
  generalize hU : (⟨P.toArray⟩ : ByteArray) = U
  have HC := Lib.hid (fun v x W h1 h2 => hU ▸ cmpc_any v x P W h1 (HP.out x h2) hp)
  clear ht hpt hU hp
  go_enter Tryz.func97, Tryz.ntmps97
  go_wp2_with fail
  go_loopw [9, 10] (fun a b wr => ∃ i j : Nat, i ≤ j ∧ j ≤ t.length ∧ a = .int .i64 i ∧ b = .int .i64 j ∧ Hid (place t P = bsF (ltAt t P) (j - i) i j) ∧ Below w.heap.size w wr) (fun a b _ => (intOf b).toNat - (intOf a).toNat)
  case atStart => exact ⟨0, t.length, Nat.zero_le _, Nat.le_refl _, rfl, rfl, by rw [Nat.sub_zero]; exact HPL.out, Below.refl _ _⟩
  case round =>
    obtain ⟨i, j, hij, hjn, rfl, rfl, hpl, hb⟩ := hrel
    by_cases hlt : i < j
    · obtain ⟨h, hh⟩ : ∃ h, (i + j) / 2 = h := ⟨_, rfl⟩
      obtain ⟨x, hx⟩ : ∃ x, t[h]? = some x := ⟨_, List.getElem?_eq_getElem (by omega)⟩
      obtain ⟨bk, o, aa, ac, ea, ec, rfl, ha, he, c0, c1, c2, c3, c4, c5, c6⟩ := (HT.out.below hb).get hx
      have q1 : IntKind.i64.wrap ((i : Int) + (j : Int)) = (i : Int) + (j : Int) := IntWalk.i64_in _ (by omega)
      have q2 : IntKind.u64.wrap ((i : Int) + (j : Int)) = (i : Int) + (j : Int) := IntWalk.u64_in _ (by omega)
      have q3 : ((i : Int) + (j : Int)) / 2 = (h : Int) := by omega
      have q4 : IntKind.i64.wrap ((h : Int) + 1) = (h : Int) + 1 := IntWalk.i64_in _ (by omega)
      have HS := Lib.hid (hpl.out.trans (bsF_step hlt))
      rw [hh] at HS
      have HLT : Hid (ltAt t P h = decide (Path.cmp x.path P < 0)) := by show _ = _; unfold ltAt; rw [hx]
      have HCX := Lib.hid (HC.out _ x wr ⟨aa, ac, ea, ec, rfl, ha, he⟩ (List.mem_of_getElem? hx))
      have hhb : i ≤ h ∧ h < j := by omega
      generalize Path.cmp x.path P = z at *
      clear hpl hx ha he
      by_cases hz : z < 0
      · rw [decide_eq_true hz] at HLT
        rw [HLT.out, if_pos rfl] at HS
        go_wp2_with fail
        refine HCX.out.mono ?_
        rintro en w' ⟨rfl, hb2⟩
        go_wp2_with fail
        go_roundw
        case rel => exact ⟨h + 1, j, by omega, hjn, by go_num, rfl, HS.out, hb.trans (hb2.mono hb.size)⟩
        case measure => simp [intOf]; omega
      · rw [decide_eq_false hz] at HLT
        rw [HLT.out, if_neg (by decide)] at HS
        go_wp2_with fail
        refine HCX.out.mono ?_
        rintro en w' ⟨rfl, hb2⟩
        go_wp2_with fail
        go_roundw
        case rel => exact ⟨i, h, by omega, by omega, rfl, rfl, HS.out, hb.trans (hb2.mono hb.size)⟩
        case measure => simp [intOf]; omega
    · obtain rfl : i = j := by omega
      have HS : Hid (place t P = i) := by show _ = _; rw [hpl.out, Nat.sub_self]; rfl
      clear hpl
      by_cases hin : i < t.length
      · obtain ⟨x, hx⟩ : ∃ x, t[i]? = some x := ⟨_, List.getElem?_eq_getElem (by omega)⟩
        obtain ⟨bk, o, aa, ac, ea, ec, rfl, ha, he, c0, c1, c2, c3, c4, c5, c6⟩ := (HT.out.below hb).get hx
        have HCX := Lib.hid (HC.out _ x wr ⟨aa, ac, ea, ec, rfl, ha, he⟩ (List.mem_of_getElem? hx))
        generalize Path.cmp x.path P = z at *
        clear hx ha he
        go_wp2_with fail
        refine HCX.out.mono ?_
        rintro en w' ⟨rfl, hb2⟩
        go_wp2_with fail
        go_ret2
        rw [HS.out]
        exact ⟨z == 0, rfl, hb.trans (hb2.mono hb.size)⟩
      · go_wp2_with fail
        go_ret2
        rw [HS.out]
        exact ⟨false, rfl, hb⟩
end Go.Proofs.YtbhmdcdhklgomaaGreatDoor

/-
  retention: Held, Allowed.
-/
namespace Go.Proofs.YtbhmdcdhklgomaaGreatDoor
open Go.RowKit Top

def FitH (l : List Hold) : Prop := ∀ h ∈ l, h.path.length ≤ 16777216
theorem FitH.active {l : List Hold} (h : FitH l) (d : Int) : FitH (active l d) := fun x hx => h x (List.mem_filter.1 hx).1
theorem under_l (x y : List UInt8) (w : World) (hx : x.length ≤ 16777216) (hy : y.length ≤ 16777216) :
    Calls Tryz.prog 33 #[.string ⟨x.toArray⟩, .string ⟨y.toArray⟩] w fun e w' => e = .returned (.bool (Path.under x y)) ∧ Below w.heap.size w w' :=
  under_any ⟨x.toArray⟩ ⟨y.toArray⟩ w (by show x.length < _; omega) (by show y.length < _; omega)

set_option maxHeartbeats 1000000 in
theorem heldc_any (h : Hold) (P : List UInt8) (pb : Nat) (w : World) (hp : w.cell? ⟨pb, 0, none⟩ = some (.string ⟨P.toArray⟩)) (h1 : h.path.length ≤ 16777216) (h2 : P.length ≤ 16777216) :
    Calls Tryz.prog 32 #[.agg #[.string ⟨h.path.toArray⟩, .int .i64 h.till], .pointer (some ⟨pb, 0, none⟩)] w fun e w' => e = .returned (.bool (Path.under P h.path)) ∧ Below w.heap.size w w' := by
  obtain ⟨W, hW, hbW, hzW, d0, d1⟩ := hbox w h
  have hp := (hbW.cell (p := ⟨pb, 0, none⟩) (World.block_lt_of_cell? _ _ hp)).trans hp
  have HC := Lib.hid (fun X => under_l P h.path X h2 h1)
  clear h1 h2
  generalize (⟨P.toArray⟩ : ByteArray) = U at *
  generalize (⟨h.path.toArray⟩ : ByteArray) = V at *
  go_enter Tryz.func32, Tryz.ntmps32
  go_wp2_with fail
  refine (HC.out _).mono ?_
  rintro e w' ⟨rfl, hb⟩
  go_wp2_with fail
  go_ret
  exact ⟨rfl, hbW.trans (hb.mono hbW.size)⟩
set_option maxHeartbeats 1000000 in
theorem held_any (hv : Value) (l : List Hold) (P : List UInt8) (d : Int) (w : World) (hl : Holds w hv l) (hn : l.length ≤ 16777216) (hf : FitH l) (hP : P.length ≤ 16777216) :
    Calls Tryz.prog 11 #[hv, .string ⟨P.toArray⟩, .int .i64 d] w fun e w' => e = .returned (.bool (held l P d)) ∧ Below w.heap.size w w' := by
  have hA := heap_alloc_new w (.cells #[.string ⟨P.toArray⟩] 9)
  have hc := tcell hA 0 _ rfl
  have hbA := (Below.refl _ w).alloc (Nat.le_refl _) (.cells #[.string ⟨P.toArray⟩] 9)
  have hsA : w.heap.size < (w.alloc (.cells #[.string ⟨P.toArray⟩] 9)).heap.size := by simp
  have HAc := Lib.hid (active_any hv l d _ (hl.below hbA) hn)
  have hq : held l P d = (active l d).any fun h => Path.under P h.path := rfl
  have HQ := Lib.hid hq
  have HBA := Lib.hid hbA
  have hfa := hf.active d
  have HH := Lib.hid (fun (v : Value) (X : World) (hX : Below (w.alloc (.cells #[.string ⟨P.toArray⟩] 9)).heap.size (w.alloc (.cells #[.string ⟨P.toArray⟩] 9)) X) (hv : Holds X v (active l d)) =>
    hasHold_any 32 (enters_of Tryz.func32 (by kernel_rfl) rfl) (.pointer (some ⟨w.heap.size, 0, none⟩)) (fun h => Path.under P h.path) v (active l d) X hv (fun W h hm hW => heldc_any h P w.heap.size W ((hW.cell (p := ⟨w.heap.size, 0, none⟩) (Nat.lt_of_lt_of_le hsA hX.size)).trans ((hX.cell (p := ⟨w.heap.size, 0, none⟩) hsA).trans hc)) (hfa h hm) hP))
  rw [hq]
  clear hl hA hc hbA hf hq hfa hP
  generalize (⟨P.toArray⟩ : ByteArray) = U at *
  go_enter Tryz.func11, Tryz.ntmps11
  go_wp2_with fail
  refine HAc.out.mono ?_
  rintro e w' ⟨v, rfl, ho, hb⟩
  have HC := Lib.hid (HH.out v w' hb (ho.flat holdC_len))
  go_wp2_with fail
  refine HC.out.mono ?_
  rintro e w2 ⟨rfl, hb2⟩
  go_wp2_with fail
  go_ret
  exact ⟨rfl, HBA.out.trans ((hb.trans (hb2.mono hb.size)).mono HBA.out.size)⟩
set_option maxHeartbeats 1000000 in
theorem allowc_any (h : Hold) (P : List UInt8) (eb : Nat) (w : World) (hp : w.cell? ⟨eb, 1, none⟩ = some (.string ⟨P.toArray⟩)) (h1 : h.path.length ≤ 16777216) (h2 : P.length ≤ 16777216) :
    Calls Tryz.prog 112 #[.agg #[.string ⟨h.path.toArray⟩, .int .i64 h.till], .pointer (some ⟨eb, 0, none⟩)] w fun e w' => e = .returned (.bool (Path.under h.path P)) ∧ Below w.heap.size w w' := by
  obtain ⟨W, hW, hbW, hzW, d0, d1⟩ := hbox w h
  have hp := (hbW.cell (p := ⟨eb, 1, none⟩) (World.block_lt_of_cell? _ _ hp)).trans hp
  have HC := Lib.hid (fun X => under_l h.path P X h1 h2)
  clear h1 h2
  generalize (⟨P.toArray⟩ : ByteArray) = U at *
  generalize (⟨h.path.toArray⟩ : ByteArray) = V at *
  go_enter Tryz.func112, Tryz.ntmps112
  go_wp2_with fail
  refine (HC.out _).mono ?_
  rintro e w' ⟨rfl, hb⟩
  go_wp2_with fail
  go_ret
  exact ⟨rfl, hbW.trans (hb.mono hbW.size)⟩
theorem allowed_in {l : List Hold} {e : Ent} {d : Int} (h : creates e = true) : allowed l e d = if held l e.path d then 15 else 0 := by
  unfold allowed
  rw [h]
  rfl
theorem allowed_4 {l : List Hold} {e : Ent} {d : Int} (h : e.kind = 4) : allowed l e d = if (held l e.path d || (active l d).any fun h => Path.under h.path e.path) then 15 else 0 := by
  have hc : creates e = false := by unfold creates; rw [h]; rfl
  unfold allowed
  rw [hc, if_neg (show ¬ (false = true) by decide), if_pos h]
theorem allowed_no {l : List Hold} {e : Ent} {d : Int} (h : creates e = false) (h4 : e.kind ≠ 4) : allowed l e d = 0 := by
  unfold allowed
  rw [h, if_neg (show ¬ (false = true) by decide), if_neg h4]
  rfl
set_option maxHeartbeats 2000000 in
set_option maxRecDepth 100000 in
theorem allowH_any (hv v : Value) (l : List Hold) (e : Ent) (d : Int) (w : World) (hl : Holds w hv l) (hn : l.length ≤ 16777216) (hf : FitH l) (hev : EntV w v e) (hP : e.path.length ≤ 16777216) :
    Calls Tryz.prog 75 #[hv, v, .int .i64 d] w fun en w' => en = .returned (.int .i64 (allowed l e d)) ∧ Below w.heap.size w w' := by
  obtain ⟨aa, ac, ea, ec, rfl, _, _⟩ := hev
  obtain ⟨W, hW, hbW, hzW, d0, d1, d2, d3, d4, d5, d6⟩ := ebox w e (.slice aa e.attrs.length ac) (.slice ea e.exts.length ec)
  have hlw : w.heap.size < W.heap.size := by omega
  have HH := Lib.hid (held_any hv l e.path d W (hl.below hbW) hn hf hP)
  have hfa := hf.active d
  have HA := Lib.hid (fun X (hX : Below W.heap.size W X) => active_any hv l d X ((hl.below hbW).below hX) hn)
  have HB := Lib.hid (fun (v : Value) (X : World) (hX : Below W.heap.size W X) (hv : Holds X v (active l d)) =>
    hasHold_any 112 (enters_of Tryz.func112 (by kernel_rfl) rfl) (.pointer (some ⟨w.heap.size, 0, none⟩)) (fun h => Path.under h.path e.path) v (active l d) X hv (fun Y h hm hY => allowc_any h e.path w.heap.size Y ((hY.cell (p := ⟨w.heap.size, 1, none⟩) (Nat.lt_of_lt_of_le hlw hX.size)).trans ((hX.cell (p := ⟨w.heap.size, 1, none⟩) hlw).trans d1)) (hfa h hm) hP))
  clear hl hf hfa hP
  by_cases hc : creates e = true
  · rw [allowed_in hc]
    have hk : e.kind = 1 ∨ e.kind = 2 ∨ e.kind = 3 := by
      unfold creates at hc
      simpa [or_assoc] using hc
    obtain ⟨b, hb⟩ : ∃ b, held l e.path d = b := ⟨_, rfl⟩
    rw [hb] at HH ⊢
    clear hc hb
    rcases hk with hk | hk | hk <;> rw [hk] at d0 hW ⊢ <;> clear hk <;> cases b
    all_goals
      go_enter Tryz.func75, Tryz.ntmps75
      go_wp2_with fail
      refine HH.out.mono ?_
      rintro en w1 ⟨rfl, hb1⟩
      go_wp2_with fail
      go_ret
      exact ⟨rfl, hbW.trans (hb1.mono hbW.size)⟩
  · have hc : creates e = false := by cases h : creates e <;> simp_all
    by_cases h4 : e.kind = 4
    · rw [allowed_4 h4]
      rw [h4] at d0 hW ⊢
      clear h4 hc
      obtain ⟨b, hb⟩ : ∃ b, held l e.path d = b := ⟨_, rfl⟩
      obtain ⟨b2, hb2⟩ : ∃ b, ((active l d).any fun h => Path.under h.path e.path) = b := ⟨_, rfl⟩
      rw [hb] at HH ⊢
      rw [hb2] at HB ⊢
      clear hb hb2
      cases b
      · cases b2
        all_goals
          go_enter Tryz.func75, Tryz.ntmps75
          go_wp2_with fail
          refine HH.out.mono ?_
          rintro en w1 ⟨rfl, hb1⟩
          go_wp2_with fail
          refine (HA.out w1 hb1).mono ?_
          rintro en w2 ⟨v2, rfl, ho2, hb2⟩
          have hb12 := hb1.trans (hb2.mono hb1.size)
          have HC := Lib.hid (HB.out v2 w2 hb12 (ho2.flat holdC_len))
          go_wp2_with fail
          refine HC.out.mono ?_
          rintro en w3 ⟨rfl, hb3⟩
          go_wp2_with fail
          go_ret
          exact ⟨rfl, hbW.trans ((hb12.trans (hb3.mono hb12.size)).mono hbW.size)⟩
      · go_enter Tryz.func75, Tryz.ntmps75
        go_wp2_with fail
        refine HH.out.mono ?_
        rintro en w1 ⟨rfl, hb1⟩
        go_wp2_with fail
        go_ret
        exact ⟨rfl, hbW.trans (hb1.mono hbW.size)⟩
    · rw [allowed_no hc h4]
      have e1 : (e.kind == 1) = false ∧ (e.kind == 2) = false ∧ (e.kind == 3) = false := by
        unfold creates at hc
        simpa [and_assoc] using hc
      obtain ⟨e1, e2, e3⟩ := e1
      have e4 : (e.kind == 4) = false := beq_eq_false_iff_ne.2 h4
      clear hc h4
      go_enter Tryz.func75, Tryz.ntmps75
      go_wp2_with fail
      go_ret
      exact ⟨rfl, hbW⟩
end Go.Proofs.YtbhmdcdhklgomaaGreatDoor
