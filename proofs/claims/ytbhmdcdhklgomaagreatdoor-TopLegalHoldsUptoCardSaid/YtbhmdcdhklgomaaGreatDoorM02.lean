/-
  The archive in plain words: attributes, entries, the tree of a directory, holds, sessions' states. No program.
-/
import Derived.Test.YtbhmdcdhklgomaaGreatDoorM01
import Derived.Lib.AtoiAll
import Derived.Lib.ItoaNum
import Derived.Test.YtbhmdcdhklgomaaGreatDoorProg
import Derived.Maps.AppendAt
import Derived.Deep.AppendLies
import Derived.IntWalk
import Derived.Deep.RegionHeld3
import Derived.StillTailTactics
import Derived.Deep.DeepCutAuto
import Derived.Deep.CutRange
import Derived.Laws.ResultCell
import Derived.Laws.Rows
import Derived.Laws.Tables
import Derived.Deep.RegionLaw
import Derived.Laws.CopyOwn
namespace Go.Proofs.YtbhmdcdhklgomaaGreatDoor.Top
open Go Go.Proofs.YtbhmdcdhklgomaaGreatDoor

abbrev Bs := List UInt8
structure Attr where
  key : Bs
  val : Bs
structure Ext where
  ses : Int
  off : Int
  len : Int
structure Ent where
  kind : Int
  path : Bs
  attrs : List Attr
  target : Bs
  size : Int
  digest : Bs
  exts : List Ext
structure Hold where
  path : Bs
  till : Int

/-! Attributes. -/
def keySet : Bs := [97, 98, 99, 100, 101, 102, 103, 104, 105, 106, 107, 108, 109, 110, 111, 112, 113, 114, 115, 116, 117, 118, 119, 120, 121, 122, 48, 49, 50, 51, 52, 53, 54, 55, 56, 57, 46, 95, 45]
def keyErr (s : Bs) : Int := if s = [] ∨ 32 < s.length ∨ ¬ s.all (fun c => keySet.contains c) = true then 7 else 0
def attrErr (a : Attr) : Int := if keyErr a.key ≠ 0 then keyErr a.key else if 64 < a.val.length then 6 else 0
def attrsGo : Option Bs → List Attr → Int
  | _, [] => 0
  | none, a :: l => if attrErr a ≠ 0 then attrErr a else attrsGo (some a.key) l
  | some k, a :: l => if attrErr a ≠ 0 then attrErr a else if Path.cmpE k a.key = 0 then 8 else if Path.cmpE k a.key = 1 then 14 else attrsGo (some a.key) l
def attrsErr (l : List Attr) : Int := if 16 < l.length then 6 else attrsGo none l

/-! Entries. -/
def isDate (s : Bs) : Bool := match Lib.atoiAll s with
  | .ok n => decide (0 ≤ n) && decide (n ≤ 1000000000) && Lib.itoa n == s
  | _ => false
def targetOk (e : Ent) : Bool := if e.kind = 3 then e.target != [] && decide (e.target.length ≤ 200) else if e.kind = 5 then isDate e.target else e.target == []
def extBad (x : Ext) : Bool := decide (x.ses < 0) || decide (255 < x.ses) || decide (x.len < 1) || decide (65536 < x.len) || decide (x.off < 0) || decide (2147483647 < x.off) || (x.ses == 0 && x.off != 0)
def restGo : Int → List Ext → Int
  | r, [] => if r ≠ 0 then 1 else 0
  | r, x :: l => if r < x.len then 1 else restGo (r - x.len) l
def contentErr (e : Ent) : Int :=
  if e.size < 0 ∨ (if e.kind = 1 then 65536 else 0) < e.size then 2
  else if e.digest.length ≠ (if e.kind = 1 then 32 else 0) then 1
  else if e.kind ≠ 1 ∧ e.exts ≠ [] then 1
  else if e.exts.any extBad then 2
  else restGo e.size e.exts
def entErr (e : Ent) : Int :=
  if e.kind < 1 ∨ 6 < e.kind then 10
  else if Path.err e.path ≠ 0 then Path.err e.path
  else if e.path = [] ∧ e.kind ≠ 5 ∧ e.kind ≠ 6 then 1
  else if attrsErr e.attrs ≠ 0 then attrsErr e.attrs
  else if (e.attrs ≠ [] ∧ 3 < e.kind) ∨ targetOk e = false then 1
  else contentErr e

/-! The tree. -/
def creates (e : Ent) : Bool := e.kind == 1 || e.kind == 2 || e.kind == 3
def find (t : List Ent) (p : Bs) : Option Nat := t.findIdx? fun x => x.path == p
def get (t : List Ent) (p : Bs) : Option Ent := t.find? fun x => x.path == p
def dirErr (t : List Ent) (p : Bs) : Int := if p = [] then 0 else match get t p with
  | none => 9
  | some x => if x.kind = 2 then 0 else 10
/-- slices.BinarySearchFunc's way. -/
def bsF (lt : Nat → Bool) : Nat → Nat → Nat → Nat
  | 0, i, _ => i
  | f + 1, i, j => if i < j then (if lt ((i + j) / 2) then bsF lt f ((i + j) / 2 + 1) j else bsF lt f i ((i + j) / 2)) else i
def place (t : List Ent) (p : Bs) : Nat := bsF (fun h => match t[h]? with
  | some x => decide (Path.cmp x.path p < 0)
  | none => false) t.length 0 t.length
def insAt {α : Type} (l : List α) (i : Nat) (x : α) : List α := l.take i ++ x :: l.drop i
def removed (e x : Ent) : Bool := e.kind == 4 && Path.under x.path e.path
def applyT (t : List Ent) (e : Ent) : Int × List Ent :=
  if entErr e ≠ 0 then (entErr e, [])
  else if creates e = false then (if find t e.path = none ∧ e.path ≠ [] then (9, []) else (0, t.filter fun x => !removed e x))
  else if dirErr t (Path.parentV e.path) ≠ 0 then (dirErr t (Path.parentV e.path), [])
  else match find t e.path, get t e.path with
    | some i, some x => if (x.kind == 2) != (e.kind == 2) then (8, []) else (0, t.set i e)
    | _, _ => if 5000 ≤ t.length then (6, []) else (0, insAt t (place t e.path) e)

/-! Holds. -/
def active (l : List Hold) (d : Int) : List Hold := l.filter fun h => decide (d ≤ h.till)
def held (l : List Hold) (p : Bs) (d : Int) : Bool := (active l d).any fun h => Path.under p h.path
def allowed (l : List Hold) (e : Ent) (d : Int) : Int :=
  if (if creates e then held l e.path d else if e.kind = 4 then held l e.path d || (active l d).any fun h => Path.under h.path e.path else false) = true then 15 else 0
def isDigit (c : UInt8) : Bool := decide (48 ≤ c.toNat) && decide (c.toNat ≤ 57)
def dateOf (s : Bs) : Int × Bool :=
  if s = [] ∨ ¬ s.all isDigit = true ∨ (s.head? = some 48 ∧ s ≠ [48]) then (0, false)
  else match Lib.atoiAll s with
    | .ok n => (n, decide (n ≤ 1000000000))
    | .range => (Lib.atoiSat s, false)
    | Lib.NumEnd.syntax => (0, false)
def others (l : List Hold) (p : Bs) : List Hold := l.filter fun h => h.path != p
def latest (l : List Hold) (p : Bs) (u : Int) : Int := l.foldl (fun u h => if h.path = p then max u h.till else u) u
def holdAt (l : List Hold) (p : Bs) : Nat := (l.findIdx? fun h => decide (0 < Path.cmp h.path p)).getD l.length
def applyH (l : List Hold) (e : Ent) (d : Int) : Int × List Hold :=
  if e.kind = 5 then
    (if (dateOf e.target).2 = false then (3, []) else (0, insAt (others (active l d) e.path) (holdAt (others (active l d) e.path) e.path) ⟨e.path, latest (active l d) e.path (dateOf e.target).1⟩))
  else if e.kind = 6 then (if (others (active l d) e.path).length = (active l d).length then (9, []) else (0, others (active l d) e.path))
  else (0, active l d)

/-! A state: the tree and the holds. -/
structure St where
  tree : List Ent
  holds : List Hold
def has (s : St) (p : Bs) : Bool := (get s.tree p).isSome
def applyS (s : St) (e : Ent) (d : Int) : Int × St :=
  if (applyT s.tree e).1 ≠ 0 then ((applyT s.tree e).1, s)
  else if (creates e = false ∨ has s e.path = true) ∧ allowed s.holds e d ≠ 0 then (allowed s.holds e d, s)
  else if (applyH s.holds e d).1 ≠ 0 then ((applyH s.holds e d).1, s)
  else (0, ⟨(applyT s.tree e).2, (applyH s.holds e d).2⟩)
def foldS (s : St) (l : List (Int × Ent)) : St := l.foldl (fun s x => (applyS s x.2 x.1).2) s
def empty : St := ⟨[], []⟩

/-! What a hold holds stays. -/
theorem insAt_mem {α : Type} {l : List α} {i : Nat} {x y : α} : y ∈ insAt l i x ↔ y = x ∨ y ∈ l := by
  unfold insAt
  conv => rhs; rw [← List.take_append_drop i l]
  simp only [List.mem_append, List.mem_cons]
  constructor
  · rintro (h | h | h)
    · exact .inr (.inl h)
    · exact .inl h
    · exact .inr (.inr h)
  · rintro (h | h | h)
    · exact .inr (.inl h)
    · exact .inl h
    · exact .inr (.inr h)
theorem get_none {t : List Ent} {p : Bs} : get t p = none ↔ ∀ x ∈ t, x.path ≠ p := by
  unfold get
  rw [List.find?_eq_none]
  simp
theorem find_none {t : List Ent} {p : Bs} : find t p = none ↔ ∀ x ∈ t, x.path ≠ p := by
  unfold find
  rw [List.findIdx?_eq_none_iff]
  simp
/-- Where every path stands once: an element is found by its path. -/
theorem get_of_mem {t : List Ent} (hd : (t.map (·.path)).Nodup) {x : Ent} (hx : x ∈ t) : get t x.path = some x := by
  induction t with
  | nil => cases hx
  | cons y t ih =>
    rw [List.map_cons, List.nodup_cons] at hd
    unfold get
    rw [List.find?_cons]
    rcases List.mem_cons.1 hx with rfl | hx
    · simp
    · have hne : y.path ≠ x.path := fun e => hd.1 (e ▸ List.mem_map_of_mem hx)
      rw [show (y.path == x.path) = false from beq_eq_false_iff_ne.2 hne]
      exact ih hd.2 hx
theorem insAt_map {α β : Type} (f : α → β) (l : List α) (i : Nat) (x : α) : (insAt l i x).map f = insAt (l.map f) i (f x) := by
  simp [insAt, List.map_take, List.map_drop]
theorem insAt_nodup {α : Type} {l : List α} (h : l.Nodup) {x : α} (hx : x ∉ l) (i : Nat) : (insAt l i x).Nodup := by
  unfold insAt
  have h2 : (l.take i ++ l.drop i).Nodup := by rwa [List.take_append_drop]
  rw [List.nodup_append] at h2 ⊢
  refine ⟨h2.1, List.nodup_cons.2 ⟨fun h => hx (List.mem_of_mem_drop h), h2.2.1⟩, fun a ha b hb e => ?_⟩
  rcases List.mem_cons.1 hb with rfl | hb
  · subst e
    exact hx (List.mem_of_mem_take ha)
  · exact h2.2.2 a ha b hb e
theorem set_map_path {t : List Ent} {i : Nat} {x e : Ent} (hi : t[i]? = some x) (hp : x.path = e.path) : (t.set i e).map (·.path) = t.map (·.path) := by
  rw [List.map_set]
  have : (t.map (·.path))[i]? = some e.path := by rw [List.getElem?_map, hi]; simp [hp]
  obtain ⟨hl, he⟩ := List.getElem?_eq_some_iff.1 this
  rw [← he]
  exact List.set_getElem_self hl
theorem find_get {t : List Ent} {p : Bs} {i : Nat} (h : find t p = some i) : ∃ x, t[i]? = some x ∧ get t p = some x ∧ x.path = p := by
  induction t generalizing i with
  | nil => simp [find] at h
  | cons y t ih =>
    unfold find at h
    rw [List.findIdx?_cons] at h
    unfold get
    rw [List.find?_cons]
    by_cases hy : (y.path == p) = true
    · rw [if_pos hy] at h
      injection h with h
      subst h
      exact ⟨y, rfl, by rw [hy], by simpa using hy⟩
    · rw [if_neg hy] at h
      obtain ⟨j, hj, rfl⟩ := Option.map_eq_some_iff.1 h
      obtain ⟨x, h1, h2, h3⟩ := ih hj
      exact ⟨x, by simpa using h1, by rw [Bool.not_eq_true] at hy; rw [hy]; exact h2, h3⟩
theorem applyT_nodup {t : List Ent} (hd : (t.map (·.path)).Nodup) (e : Ent) : ((applyT t e).2.map (·.path)).Nodup := by
  unfold applyT
  split
  · exact List.nodup_nil
  · split
    · split
      · exact List.nodup_nil
      · exact hd.sublist (List.filter_sublist.map _)
    · split
      · exact List.nodup_nil
      · split
        · rename_i i x h1 h2
          split
          · exact List.nodup_nil
          · obtain ⟨y, h3, h4, h5⟩ := find_get h1
            show ((t.set i e).map _).Nodup
            rw [set_map_path h3 h5]
            exact hd
        · rename_i hno
          split
          · exact List.nodup_nil
          · show ((insAt t _ e).map _).Nodup
            rw [insAt_map]
            refine insAt_nodup hd (fun hm => ?_) _
            obtain ⟨x, hx, hp⟩ := List.mem_map.1 hm
            cases hf : find t e.path with
            | none => exact (find_none.1 hf) x hx hp
            | some i =>
              obtain ⟨y, _, h4, _⟩ := find_get hf
              exact hno i y hf h4
theorem held_iff {l : List Hold} {p : Bs} {d : Int} : held l p d = true ↔ ∃ h ∈ l, d ≤ h.till ∧ Path.under p h.path = true := by
  unfold held active
  simp only [List.any_eq_true, List.mem_filter, decide_eq_true_eq]
  exact ⟨fun ⟨h, ⟨h1, h2⟩, h3⟩ => ⟨h, h1, h2, h3⟩, fun ⟨h, h1, h2, h3⟩ => ⟨h, ⟨h1, h2⟩, h3⟩⟩
/-- Two directories of one path: one lies under the other. -/
theorem under_line {p a b : Bs} (h1 : Path.under p a = true) (h2 : Path.under p b = true) : Path.under a b = true ∨ Path.under b a = true := by
  rw [Path.under_iff] at h1 h2
  rcases List.prefix_or_prefix_of_prefix h1.2.2 h2.2.2 with h | h
  · exact .inr (Path.under_iff.2 ⟨h2.2.1, h1.2.1, h⟩)
  · exact .inl (Path.under_iff.2 ⟨h1.2.1, h2.2.1, h⟩)
theorem latest_le (l : List Hold) (p : Bs) : ∀ u : Int, u ≤ latest l p u ∧ ∀ h ∈ l, h.path = p → h.till ≤ latest l p u := by
  unfold latest
  induction l with
  | nil => intro u; exact ⟨Int.le_refl _, fun h hh => by cases hh⟩
  | cons y l ih =>
    intro u
    rw [List.foldl_cons]
    obtain ⟨h1, h2⟩ := ih (if y.path = p then max u y.till else u)
    refine ⟨Int.le_trans ?_ h1, fun h hh hp => ?_⟩
    · split <;> omega
    · rcases List.mem_cons.1 hh with rfl | hh
      · rw [if_pos hp] at h1 ⊢
        exact Int.le_trans (Int.le_max_right _ _) h1
      · exact h2 h hh hp
/-- Whatever is held by d in l is held behind an entry that is no release. -/
theorem applyH_held {l : List Hold} {e : Ent} {d : Int} {p : Bs} (hk : e.kind ≠ 6) (h0 : (applyH l e d).1 = 0) (hh : held l p d = true) : held (applyH l e d).2 p d = true := by
  obtain ⟨h, h1, h2, h3⟩ := held_iff.1 hh
  have ha : h ∈ active l d := List.mem_filter.2 ⟨h1, by simpa using h2⟩
  unfold applyH at h0 ⊢
  by_cases h5 : e.kind = 5
  · rw [if_pos h5] at h0 ⊢
    by_cases hd : (dateOf e.target).2 = false
    · rw [if_pos hd] at h0
      exact absurd h0 (by decide)
    · rw [if_neg hd]
      by_cases hp : h.path = e.path
      · refine held_iff.2 ⟨_, insAt_mem.2 (.inl rfl), ?_, ?_⟩
        · exact Int.le_trans h2 ((latest_le _ _ _).2 h ha hp)
        · rw [← hp]
          exact h3
      · exact held_iff.2 ⟨h, insAt_mem.2 (.inr (List.mem_filter.2 ⟨ha, by simpa using hp⟩)), h2, h3⟩
  · rw [if_neg h5, if_neg hk] at h0 ⊢
    exact held_iff.2 ⟨h, ha, h2, h3⟩
/-- What is held stays, behind an entry that is no release. -/
theorem applyS_keeps {s : St} {e : Ent} {d : Int} {x : Ent} (hd : (s.tree.map (·.path)).Nodup) (hk : e.kind ≠ 6) (hx : x ∈ s.tree) (hh : held s.holds x.path d = true) :
    ((applyS s e d).2.tree.map (·.path)).Nodup ∧ x ∈ (applyS s e d).2.tree ∧ held (applyS s e d).2.holds x.path d = true := by
  unfold applyS
  split
  · exact ⟨hd, hx, hh⟩
  · split
    · exact ⟨hd, hx, hh⟩
    · split
      · exact ⟨hd, hx, hh⟩
      · rename_i h1 h2 h3
        rw [Decidable.not_not] at h1 h3
        refine ⟨applyT_nodup hd e, ?_, applyH_held hk h3 hh⟩
        show x ∈ (applyT s.tree e).2
        have hal : (creates e = false ∨ has s e.path = true) → allowed s.holds e d = 0 := fun h => by
          rcases Decidable.em (allowed s.holds e d = 0) with h4 | h4
          · exact h4
          · exact absurd ⟨h, h4⟩ h2
        unfold applyT at h1 ⊢
        split at h1 <;> rename_i g1
        · exact absurd h1 g1
        · rw [if_neg g1]
          split at h1 <;> rename_i g2
          · rw [if_pos g2]
            split at h1 <;> rename_i g3
            · exact absurd h1 (by decide)
            · rw [if_neg g3]
              refine List.mem_filter.2 ⟨hx, ?_⟩
              have h4 := hal (.inl g2)
              cases hr : removed e x with
              | false => rfl
              | true =>
                unfold removed at hr
                rw [Bool.and_eq_true, beq_iff_eq] at hr
                unfold allowed at h4
                rw [g2] at h4
                simp only [Bool.false_eq_true, if_false, hr.1, if_true] at h4
                obtain ⟨h, hm, ht, hu⟩ := held_iff.1 hh
                exfalso
                rcases under_line hr.2 hu with h5 | h5
                · rw [held_iff.2 ⟨h, hm, ht, h5⟩] at h4
                  exact absurd h4 (by simp)
                · have : ((active s.holds d).any fun h => Path.under h.path e.path) = true := List.any_eq_true.2 ⟨h, List.mem_filter.2 ⟨hm, by simpa using ht⟩, h5⟩
                  rw [this, Bool.or_true] at h4
                  exact absurd h4 (by simp)
          · rw [if_neg g2]
            split at h1 <;> rename_i g3
            · exact absurd h1 g3
            · rw [if_neg g3]
              have gc : creates e = true := by cases h : creates e <;> simp_all
              cases hf : find s.tree e.path with
              | none =>
                rw [hf] at h1
                simp only at h1 ⊢
                split at h1
                · exact absurd h1 (by decide)
                · rename_i g4
                  rw [if_neg g4]
                  exact insAt_mem.2 (.inr hx)
              | some i =>
                obtain ⟨y, k1, k2, k3⟩ := find_get hf
                rw [hf, k2] at h1
                rw [k2]
                simp only at h1 ⊢
                split at h1
                · exact absurd h1 (by decide)
                · rename_i g4
                  rw [if_neg g4]
                  have h4 := hal (.inr (by unfold has; rw [k2]; rfl))
                  have hne : x.path ≠ e.path := fun h5 => by
                    unfold allowed at h4
                    rw [gc, if_pos rfl, ← h5, hh] at h4
                    exact absurd h4 (by decide)
                  obtain ⟨j, hj⟩ := List.mem_iff_getElem?.1 hx
                  refine List.mem_iff_getElem?.2 ⟨j, ?_⟩
                  rw [List.getElem?_set_ne]
                  · exact hj
                  · intro hij
                    subst hij
                    rw [k1] at hj
                    injection hj with hj
                    subst hj
                    exact hne k3
theorem foldS_keeps {l : List (Int × Ent)} {d : Int} {x : Ent} (hl : ∀ y ∈ l, y.1 = d ∧ y.2.kind ≠ 6) : ∀ {s : St}, (s.tree.map (·.path)).Nodup → x ∈ s.tree → held s.holds x.path d = true → ((foldS s l).tree.map (·.path)).Nodup ∧ x ∈ (foldS s l).tree := by
  induction l with
  | nil => intro s hd hx _; exact ⟨hd, hx⟩
  | cons y l ih =>
    intro s hd hx hh
    obtain ⟨rfl, hk⟩ := hl y (List.mem_cons_self ..)
    obtain ⟨h1, h2, h3⟩ := applyS_keeps (e := y.2) hd hk hx hh
    exact ih (fun z hz => hl z (List.mem_cons_of_mem _ hz)) h1 h2 h3
theorem applyS_nodup {s : St} (hd : (s.tree.map (·.path)).Nodup) (e : Ent) (d : Int) : ((applyS s e d).2.tree.map (·.path)).Nodup := by
  unfold applyS
  split
  · exact hd
  · split
    · exact hd
    · split
      · exact hd
      · exact applyT_nodup hd e
theorem foldS_nodup {l : List (Int × Ent)} : ∀ {s : St}, (s.tree.map (·.path)).Nodup → ((foldS s l).tree.map (·.path)).Nodup := by
  induction l with
  | nil => intro s hd; exact hd
  | cons y l ih => intro s hd; exact ih (applyS_nodup hd y.2 y.1)
theorem foldS_append (s : St) (a b : List (Int × Ent)) : foldS s (a ++ b) = foldS (foldS s a) b := by simp [foldS]
/-- The law: what a hold holds at the beginning of a session without a release is found behind it. -/
theorem holds_law (a b : List (Int × Ent)) (d : Int) (hb : ∀ y ∈ b, y.1 = d ∧ y.2.kind ≠ 6) (x : Ent) (hx : x ∈ (foldS empty a).tree) (hh : held (foldS empty a).holds x.path d = true) :
    get (foldS empty (a ++ b)).tree x.path = some x := by
  have h0 : ((foldS empty a).tree.map (·.path)).Nodup := foldS_nodup (by simp [empty])
  obtain ⟨h1, h2⟩ := foldS_keeps hb h0 hx hh
  rw [foldS_append]
  exact get_of_mem h1 h2
end Go.Proofs.YtbhmdcdhklgomaaGreatDoor.Top

/-
  The archive's parts in memory: slices of flat elements, entries, slices of entries.
-/
namespace Go.Proofs.YtbhmdcdhklgomaaGreatDoor
open Go.RowKit Top

theorem tcell {W : World} {b : Nat} {cs : Array Value} {E : TypeId} {m : Nat × Nat} (h : W.heap[b]? = some (.cells cs E m)) (i : Nat) (v : Value) (hv : cs[i]? = some v) : W.cell? ⟨b, i, none⟩ = some v := by
  simp [World.cell?, h, hv]
theorem tfree {w : World} {b : Nat} {cs : Array Value} {E : TypeId} (h : w.heap[b]? = some (.cells cs E (0, 0))) (i : Nat) : w.frozen? ⟨b, i, none⟩ = false := by
  simp [World.frozen?, h]
/-- The cells of a slice's elements. -/
def Raw (w : World) (ao : Option Addr) (k : Nat) (vss : List (List Value)) : Prop :=
  ∀ (j : Nat) (vs : List Value), vss[j]? = some vs → vs.length = k ∧ ∃ bk o, ao = some ⟨bk, o, none⟩ ∧ ∀ (i : Nat) (v : Value), vs[i]? = some v → w.cell? ⟨bk, o + j * k + i, none⟩ = some v
theorem Raw.below {w w' : World} {ao : Option Addr} {k : Nat} {vss : List (List Value)} (h : Raw w ao k vss) (hb : Below w.heap.size w w') : Raw w' ao k vss := fun j vs hj => by
  obtain ⟨h1, bk, o, h2, h3⟩ := h j vs hj
  exact ⟨h1, bk, o, h2, fun i v hi => (hb.cell (World.block_lt_of_cell? _ _ (h3 i v hi))).trans (h3 i v hi)⟩
theorem Raw.nil (w : World) (ao : Option Addr) (k : Nat) : Raw w ao k [] := fun j vs h => by simp at h
def attrC (a : Top.Attr) : List Value := [.string ⟨a.key.toArray⟩, .string ⟨a.val.toArray⟩]
def extC (x : Ext) : List Value := [.int .i64 x.ses, .int .i64 x.off, .int .i64 x.len]
def holdC (h : Hold) : List Value := [.string ⟨h.path.toArray⟩, .int .i64 h.till]
/-- A slice of elements that hold no slice. -/
def Flat {α : Type} (c : α → List Value) (k : Nat) (w : World) (v : Value) (l : List α) : Prop :=
  ∃ ao cap, v = .slice ao l.length cap ∧ l.length ≤ cap ∧ cap ≤ 9223372036854775807 ∧ Raw w ao k (l.map c)
section
variable {α : Type} {c : α → List Value} {k : Nat} {w w' : World} {v : Value} {l : List α}
theorem Flat.below (h : Flat c k w v l) (hb : Below w.heap.size w w') : Flat c k w' v l := by
  obtain ⟨ao, cap, h1, h2, h3, h4⟩ := h
  exact ⟨ao, cap, h1, h2, h3, h4.below hb⟩
theorem Flat.nil (c : α → List Value) (k : Nat) (w : World) : Flat c k w (.slice none 0 0) [] := ⟨none, 0, rfl, by simp, by simp, Raw.nil _ _ _⟩
theorem Flat.get {ao : Option Addr} {n cap : Nat} (h : Flat c k w (.slice ao n cap) l) {j : Nat} {x : α} (hj : l[j]? = some x) : ∃ bk o, ao = some ⟨bk, o, none⟩ ∧ ∀ (i : Nat) (u : Value), (c x)[i]? = some u → w.cell? ⟨bk, o + j * k + i, none⟩ = some u := by
  obtain ⟨ao', cap', h1, h2, h3, h4⟩ := h
  injection h1 with h1 _ _
  subst h1
  exact (h4 j (c x) (by rw [List.getElem?_map, hj]; rfl)).2
theorem Flat.form (h : Flat c k w v l) : ∃ ao cap, v = .slice ao l.length cap ∧ l.length ≤ cap ∧ cap ≤ 9223372036854775807 := by
  obtain ⟨ao, cap, h1, h2, h3, _⟩ := h
  exact ⟨ao, cap, h1, h2, h3⟩
end
/-- The seven cells of an entry. -/
def entL (e : Ent) (av ev : Value) : List Value := [.int .i64 e.kind, .string ⟨e.path.toArray⟩, av, .string ⟨e.target.toArray⟩, .int .i64 e.size, .string ⟨e.digest.toArray⟩, ev]
def EntC (w : World) (vs : List Value) (e : Ent) : Prop := ∃ aa ac ea ec, vs = entL e (.slice aa e.attrs.length ac) (.slice ea e.exts.length ec) ∧ Flat attrC 2 w (.slice aa e.attrs.length ac) e.attrs ∧ Flat extC 3 w (.slice ea e.exts.length ec) e.exts
theorem EntC.below {w w' : World} {vs : List Value} {e : Ent} (h : EntC w vs e) (hb : Below w.heap.size w w') : EntC w' vs e := by
  obtain ⟨aa, ac, ea, ec, h1, h2, h3⟩ := h
  exact ⟨aa, ac, ea, ec, h1, h2.below hb, h3.below hb⟩
/-- An entry as a value. -/
def EntV (w : World) (v : Value) (e : Ent) : Prop := ∃ aa ac ea ec, v = .agg #[.int .i64 e.kind, .string ⟨e.path.toArray⟩, .slice aa e.attrs.length ac, .string ⟨e.target.toArray⟩, .int .i64 e.size, .string ⟨e.digest.toArray⟩, .slice ea e.exts.length ec] ∧ Flat attrC 2 w (.slice aa e.attrs.length ac) e.attrs ∧ Flat extC 3 w (.slice ea e.exts.length ec) e.exts
theorem EntV.below {w w' : World} {v : Value} {e : Ent} (h : EntV w v e) (hb : Below w.heap.size w w') : EntV w' v e := by
  obtain ⟨aa, ac, ea, ec, h1, h2, h3⟩ := h
  exact ⟨aa, ac, ea, ec, h1, h2.below hb, h3.below hb⟩
def All2 {α β : Type} (R : α → β → Prop) (xs : List α) (ys : List β) : Prop := xs.length = ys.length ∧ ∀ (j : Nat) (x : α) (y : β), xs[j]? = some x → ys[j]? = some y → R x y
/-- A slice of entries. -/
def Ents (w : World) (v : Value) (l : List Ent) : Prop :=
  ∃ ao cap vss, v = .slice ao l.length cap ∧ l.length ≤ cap ∧ cap ≤ 9223372036854775807 ∧ Raw w ao 7 vss ∧ All2 (EntC w) vss l
section
variable {w w' : World} {v : Value} {l : List Ent}
theorem Ents.below (h : Ents w v l) (hb : Below w.heap.size w w') : Ents w' v l := by
  obtain ⟨ao, cap, vss, h1, h2, h3, h4, h5, h6⟩ := h
  exact ⟨ao, cap, vss, h1, h2, h3, h4.below hb, h5, fun j x y hx hy => (h6 j x y hx hy).below hb⟩
theorem Ents.nil (w : World) : Ents w (.slice none 0 0) [] := ⟨none, 0, [], rfl, by simp, by simp, Raw.nil _ _ _, rfl, fun j x y h => by simp at h⟩
theorem Ents.form (h : Ents w v l) : ∃ ao cap, v = .slice ao l.length cap ∧ l.length ≤ cap ∧ cap ≤ 9223372036854775807 := by
  obtain ⟨ao, cap, _, h1, h2, h3, _⟩ := h
  exact ⟨ao, cap, h1, h2, h3⟩
theorem Ents.get {ao : Option Addr} {n cap : Nat} (h : Ents w (.slice ao n cap) l) {j : Nat} {x : Ent} (hj : l[j]? = some x) : ∃ bk o aa ac ea ec, ao = some ⟨bk, o, none⟩ ∧ Flat attrC 2 w (.slice aa x.attrs.length ac) x.attrs ∧ Flat extC 3 w (.slice ea x.exts.length ec) x.exts ∧
    w.cell? ⟨bk, o + j * 7, none⟩ = some (.int .i64 x.kind) ∧ w.cell? ⟨bk, o + j * 7 + 1, none⟩ = some (.string ⟨x.path.toArray⟩) ∧ w.cell? ⟨bk, o + j * 7 + 2, none⟩ = some (.slice aa x.attrs.length ac) ∧ w.cell? ⟨bk, o + j * 7 + 3, none⟩ = some (.string ⟨x.target.toArray⟩) ∧
    w.cell? ⟨bk, o + j * 7 + 4, none⟩ = some (.int .i64 x.size) ∧ w.cell? ⟨bk, o + j * 7 + 5, none⟩ = some (.string ⟨x.digest.toArray⟩) ∧ w.cell? ⟨bk, o + j * 7 + 6, none⟩ = some (.slice ea x.exts.length ec) := by
  obtain ⟨ao', cap', vss, h1, h2, h3, h4, h5, h6⟩ := h
  injection h1 with h1 _ _
  subst h1
  have hjl := (List.getElem?_eq_some_iff.1 hj).1
  obtain ⟨vs, hv⟩ : ∃ vs, vss[j]? = some vs := ⟨_, List.getElem?_eq_getElem (by omega)⟩
  obtain ⟨_, bk, o, e, hc⟩ := h4 j vs hv
  obtain ⟨aa, ac, ea, ec, rfl, ha, he⟩ := h6 j vs x hv hj
  exact ⟨bk, o, aa, ac, ea, ec, e, ha, he, hc 0 _ rfl, hc 1 _ rfl, hc 2 _ rfl, hc 3 _ rfl, hc 4 _ rfl, hc 5 _ rfl, hc 6 _ rfl⟩
end
/-- A box that holds an entry. -/
theorem ebox (w : World) (e : Ent) (av ev : Value) : ∃ W, w.alloc (.cells #[.int .i64 e.kind, .string ⟨e.path.toArray⟩, av, .string ⟨e.target.toArray⟩, .int .i64 e.size, .string ⟨e.digest.toArray⟩, ev] 43) = W ∧ Below w.heap.size w W ∧ W.heap.size = w.heap.size + 1 ∧
    W.cell? ⟨w.heap.size, 0, none⟩ = some (.int .i64 e.kind) ∧ W.cell? ⟨w.heap.size, 1, none⟩ = some (.string ⟨e.path.toArray⟩) ∧ W.cell? ⟨w.heap.size, 2, none⟩ = some av ∧ W.cell? ⟨w.heap.size, 3, none⟩ = some (.string ⟨e.target.toArray⟩) ∧
    W.cell? ⟨w.heap.size, 4, none⟩ = some (.int .i64 e.size) ∧ W.cell? ⟨w.heap.size, 5, none⟩ = some (.string ⟨e.digest.toArray⟩) ∧ W.cell? ⟨w.heap.size, 6, none⟩ = some ev := by
  have h := heap_alloc_new w (.cells #[.int .i64 e.kind, .string ⟨e.path.toArray⟩, av, .string ⟨e.target.toArray⟩, .int .i64 e.size, .string ⟨e.digest.toArray⟩, ev] 43)
  exact ⟨_, rfl, (Below.refl _ w).alloc (Nat.le_refl _) _, by simp, tcell h 0 _ rfl, tcell h 1 _ rfl, tcell h 2 _ rfl, tcell h 3 _ rfl, tcell h 4 _ rfl, tcell h 5 _ rfl, tcell h 6 _ rfl⟩
/-- A row of seven cells: what a store of all of them asks, and what it leaves. -/
theorem row7 {w : World} {g : Nat} {E : TypeId} {v0 v1 v2 v3 v4 v5 v6 : Value} (h : w.heap[g]? = some (.cells #[v0, v1, v2, v3, v4, v5, v6] E (0, 0))) :
    w.cell? ⟨g, 0, none⟩ = some v0 ∧ w.cell? ⟨g, 1, none⟩ = some v1 ∧ w.cell? ⟨g, 2, none⟩ = some v2 ∧ w.cell? ⟨g, 3, none⟩ = some v3 ∧ w.cell? ⟨g, 4, none⟩ = some v4 ∧ w.cell? ⟨g, 5, none⟩ = some v5 ∧ w.cell? ⟨g, 6, none⟩ = some v6 ∧
    w.frozen? ⟨g, 0, none⟩ = false ∧ w.frozen? ⟨g, 1, none⟩ = false ∧ w.frozen? ⟨g, 2, none⟩ = false ∧ w.frozen? ⟨g, 3, none⟩ = false ∧ w.frozen? ⟨g, 4, none⟩ = false ∧ w.frozen? ⟨g, 5, none⟩ = false ∧ w.frozen? ⟨g, 6, none⟩ = false :=
  ⟨tcell h 0 _ rfl, tcell h 1 _ rfl, tcell h 2 _ rfl, tcell h 3 _ rfl, tcell h 4 _ rfl, tcell h 5 _ rfl, tcell h 6 _ rfl, tfree h 0, tfree h 1, tfree h 2, tfree h 3, tfree h 4, tfree h 5, tfree h 6⟩
theorem tset {w : World} {b i : Nat} {cs : Array Value} {E : TypeId} {m : Nat × Nat} (h : w.heap[b]? = some (.cells cs E m)) (v : Value) : (w.setCell ⟨b, i, none⟩ v).heap[b]? = some (.cells (cs.setIfInBounds i v) E m) := by
  simp [World.setCell, Array.getElem?_modify, h]
theorem set7 {w : World} {g B : Nat} {E : TypeId} {u0 u1 u2 u3 u4 u5 u6 : Value} (h : w.heap[g]? = some (.cells #[u0, u1, u2, u3, u4, u5, u6] E (0, 0))) (hB : B ≤ g) (v0 v1 v2 v3 v4 v5 v6 : Value) :
    (((((((w.setCell ⟨g, 0, none⟩ v0).setCell ⟨g, 1, none⟩ v1).setCell ⟨g, 2, none⟩ v2).setCell ⟨g, 3, none⟩ v3).setCell ⟨g, 4, none⟩ v4).setCell ⟨g, 5, none⟩ v5).setCell ⟨g, 6, none⟩ v6).heap[g]? = some (.cells #[v0, v1, v2, v3, v4, v5, v6] E (0, 0)) ∧
    Below B w (((((((w.setCell ⟨g, 0, none⟩ v0).setCell ⟨g, 1, none⟩ v1).setCell ⟨g, 2, none⟩ v2).setCell ⟨g, 3, none⟩ v3).setCell ⟨g, 4, none⟩ v4).setCell ⟨g, 5, none⟩ v5).setCell ⟨g, 6, none⟩ v6) := by
  have h0 : (w.setCell ⟨g, 0, none⟩ v0).heap[g]? = some (.cells #[v0, u1, u2, u3, u4, u5, u6] E (0, 0)) := by
    rw [tset h]
    simp
  have h1 : ((w.setCell ⟨g, 0, none⟩ v0).setCell ⟨g, 1, none⟩ v1).heap[g]? = some (.cells #[v0, v1, u2, u3, u4, u5, u6] E (0, 0)) := by
    rw [tset h0]
    simp
  have h2 : (((w.setCell ⟨g, 0, none⟩ v0).setCell ⟨g, 1, none⟩ v1).setCell ⟨g, 2, none⟩ v2).heap[g]? = some (.cells #[v0, v1, v2, u3, u4, u5, u6] E (0, 0)) := by
    rw [tset h1]
    simp
  have h3 : ((((w.setCell ⟨g, 0, none⟩ v0).setCell ⟨g, 1, none⟩ v1).setCell ⟨g, 2, none⟩ v2).setCell ⟨g, 3, none⟩ v3).heap[g]? = some (.cells #[v0, v1, v2, v3, u4, u5, u6] E (0, 0)) := by
    rw [tset h2]
    simp
  have h4 : (((((w.setCell ⟨g, 0, none⟩ v0).setCell ⟨g, 1, none⟩ v1).setCell ⟨g, 2, none⟩ v2).setCell ⟨g, 3, none⟩ v3).setCell ⟨g, 4, none⟩ v4).heap[g]? = some (.cells #[v0, v1, v2, v3, v4, u5, u6] E (0, 0)) := by
    rw [tset h3]
    simp
  have h5 : ((((((w.setCell ⟨g, 0, none⟩ v0).setCell ⟨g, 1, none⟩ v1).setCell ⟨g, 2, none⟩ v2).setCell ⟨g, 3, none⟩ v3).setCell ⟨g, 4, none⟩ v4).setCell ⟨g, 5, none⟩ v5).heap[g]? = some (.cells #[v0, v1, v2, v3, v4, v5, u6] E (0, 0)) := by
    rw [tset h4]
    simp
  have h6 : (((((((w.setCell ⟨g, 0, none⟩ v0).setCell ⟨g, 1, none⟩ v1).setCell ⟨g, 2, none⟩ v2).setCell ⟨g, 3, none⟩ v3).setCell ⟨g, 4, none⟩ v4).setCell ⟨g, 5, none⟩ v5).setCell ⟨g, 6, none⟩ v6).heap[g]? = some (.cells #[v0, v1, v2, v3, v4, v5, v6] E (0, 0)) := by
    rw [tset h5]
    simp
  exact ⟨h6, ((((((((Below.refl B w).setCell (p := ⟨g, 0, none⟩) hB v0).setCell (p := ⟨g, 1, none⟩) hB v1).setCell (p := ⟨g, 2, none⟩) hB v2).setCell (p := ⟨g, 3, none⟩) hB v3).setCell (p := ⟨g, 4, none⟩) hB v4).setCell (p := ⟨g, 5, none⟩) hB v5).setCell (p := ⟨g, 6, none⟩) hB v6)⟩
/-- Two results, the first a struct in a variable of its own. -/
theorem results_row_tmp {P : Program} {fn : Func} {p u : Tmp} {ty : TypeId} (h : fn.results = #[.cell p ty, .tmp u]) (tmps : Array Value) (w : World) (g : Nat) (t : TypeId) (cs : Array Value) (fr : Nat × Nat) (d : TypeDesc)
    (hp : tmps.getD p undef = .pointer (some ⟨g, 0, none⟩)) (hg : w.heap[g]? = some (.cells cs t fr)) (hu : P.underlying ty = some d) (hd : (match d with | .struct _ | .array _ _ => true | _ => false) = true) (hi : (P.info? ty).map (·.size) = some cs.size) :
    (results fn tmps).run P w = .ok (.tuple #[.agg cs, tmps.getD u undef]) w := by
  rw [results_cell_tmp h, hp]
  simp [asAddr, run_loadVar_row w g t ty cs fr d hg hu hd hi, Result.andThen]
end Go.Proofs.YtbhmdcdhklgomaaGreatDoor

/-
  Encodings, segments, chunks, stores in plain words. No program.
-/
namespace Go.Proofs.YtbhmdcdhklgomaaGreatDoor.Top
open Go Go.Proofs.YtbhmdcdhklgomaaGreatDoor

/-! Netstrings; an entry's encoding. -/
def num (n : Int) : Bs := Lib.itoa n ++ [32]
def str (s : Bs) : Bs := Lib.itoa s.length ++ ([58] ++ (s ++ [44]))
def strs (l : List Bs) : Bs := l.flatMap str
def kindNames : List Bs := [[102, 105, 108, 101], [100, 105, 114], [108, 105, 110, 107], [114, 101, 109, 111, 118, 101], [104, 111, 108, 100], [114, 101, 108, 101, 97, 115, 101]]
def attrB (a : Attr) : Bs := strs [a.key, a.val]
def headB (e : Ent) : Bs := strs [kindNames.getD (e.kind - 1).toNat [], e.path] ++ num e.attrs.length ++ e.attrs.flatMap attrB ++ str e.target
def extB (x : Ext) : Bs := num x.ses ++ num x.off ++ num x.len
def encB (e : Ent) : Bs := str (headB e) ++ num e.size ++ str e.digest ++ num e.exts.length ++ e.exts.flatMap extB
def headE (e : Ent) : Int × Bs := if entErr e ≠ 0 then (entErr e, []) else (0, headB e)
def encE (e : Ent) : Int × Bs := if entErr e ≠ 0 then (entErr e, []) else (0, encB e)

/-! Segments. -/
structure Seg where
  data : Bs
  len : Int
def zeros (s : Bs) : Nat := (s.takeWhile (· == 0)).length
def runsGo (c : Bs) : Nat → Nat → Nat → List (Bs × Nat)
  | 0, _, _ => []
  | f + 1, start, pos =>
    if pos < c.length then
      (if 32 ≤ zeros (c.drop pos) then ((c.drop start).take (pos - start), zeros (c.drop pos)) :: runsGo c f (pos + zeros (c.drop pos)) (pos + zeros (c.drop pos))
        else runsGo c f start (pos + max (zeros (c.drop pos)) 1))
    else if start < c.length then [(c.drop start, 0)] else []
def runs (c : Bs) : List (Bs × Nat) := runsGo c (c.length + 1) 0 0
def segOf (r : Bs × Nat) : List Seg := (if r.1 = [] then [] else [⟨r.1, 0⟩]) ++ (if 0 < r.2 then [⟨[], r.2⟩] else [])
def segs (c : Bs) : List Seg := (runs c).flatMap segOf

/-! Chunks. -/
def hstep (h : Int) (c : UInt8) : Int := (2 * h + 40503 * ((c.toNat : Int) + 1)) % 65536
def firstGo : Nat → Int → Bs → Nat
  | i, _, [] => i
  | i, h, c :: l => if i + 1 = 96 ∨ (16 ≤ i + 1 ∧ hstep h c < 2048) then i + 1 else firstGo (i + 1) (hstep h c) l
def first (d : Bs) : Nat := firstGo 0 0 d
def chunksGo : Nat → Bs → List Bs
  | 0, _ => []
  | f + 1, d => if d = [] then [] else d.take (first d) :: chunksGo f (d.drop (first d))
def chunks (d : Bs) : List Bs := chunksGo d.length d

/-! A store of chunks, at whatever digest. -/
structure Chunk where
  digest : Bs
  ext : Ext
structure Store where
  chunks : List Chunk
  ses : Int
  stream : Bs
abbrev Known := List (Bs × Ext)
def look (k : Known) (d : Bs) : Option Ext := (k.find? fun x => x.1 == d).map (·.2)
def index (l : List Chunk) : Known := l.foldl (fun k c => if (look k c.digest).isSome then k else k ++ [(c.digest, c.ext)]) []
def add (out : List Ext) (x : Ext) : List Ext :=
  match out.getLast? with
  | some y => if x.ses ≠ 0 ∧ y.ses = x.ses ∧ y.off + y.len = x.off then out.dropLast ++ [⟨y.ses, y.off, y.len + x.len⟩] else out ++ [x]
  | none => [x]
structure PutS where
  known : Known
  chunks : List Chunk
  stream : Bs
  out : List Ext
def putChunk (dig : Bs → Bs) (ses : Int) (s : PutS) (d : Bs) : PutS :=
  match look s.known (dig d) with
  | some x => { s with out := add s.out x }
  | none => ⟨s.known ++ [(dig d, ⟨ses, s.stream.length, d.length⟩)], s.chunks ++ [⟨dig d, ⟨ses, s.stream.length, d.length⟩⟩], s.stream ++ d, add s.out ⟨ses, s.stream.length, d.length⟩⟩
def putSeg (dig : Bs → Bs) (ses : Int) (s : PutS) (g : Seg) : PutS :=
  if g.data = [] then { s with out := add s.out ⟨0, 0, g.len⟩ } else (chunks g.data).foldl (putChunk dig ses) s
def putAll (dig : Bs → Bs) (s : Store) (c : Bs) : PutS := (segs c).foldl (putSeg dig s.ses) ⟨index s.chunks, s.chunks, s.stream, []⟩
def put (dig : Bs → Bs) (s : Store) (c : Bs) : Store × List Ext × Int :=
  if s.ses < 1 ∨ 255 < s.ses then (s, [], 1)
  else if 65536 < c.length then (s, [], 6)
  else (⟨(putAll dig s c).chunks, s.ses, (putAll dig s c).stream⟩, (putAll dig s c).out, 0)
def begin (s : Store) (n : Int) : Store × Int :=
  if n < 1 ∨ 255 < n then (s, 2) else if n ≤ s.ses then (s, 14) else (⟨s.chunks, n, []⟩, 0)
def getGo (streams : List Bs) : Bs → List Ext → Bs × Int
  | out, [] => (out, 0)
  | out, x :: l =>
    if x.len < 0 ∨ x.off < 0 ∨ x.ses < 0 ∨ (streams.length : Int) < x.ses ∨ (x.ses = 0 ∧ x.off ≠ 0) then ([], 2)
    else if 0 < x.ses ∧ ((((streams.getD (x.ses - 1).toNat []).length : Nat) : Int) < x.off ∨ (((streams.getD (x.ses - 1).toNat []).length : Nat) : Int) - x.off < x.len) then ([], 2)
    else if 65536 - (out.length : Int) < x.len then ([], 6)
    else if x.ses = 0 then getGo streams (out ++ List.replicate x.len.toNat 0) l
    else getGo streams (out ++ ((streams.getD (x.ses - 1).toNat []).drop x.off.toNat).take x.len.toNat) l
def getB (streams : List Bs) (l : List Ext) : Bs × Int := getGo streams [] l
end Go.Proofs.YtbhmdcdhklgomaaGreatDoor.Top
