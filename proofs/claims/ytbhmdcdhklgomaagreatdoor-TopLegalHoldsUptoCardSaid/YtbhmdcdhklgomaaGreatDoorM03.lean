/-
  BLAKE2s in the model's own words, on lists of words. No program.
-/
import Derived.Test.YtbhmdcdhklgomaaGreatDoorM02
import Derived.Below
import Derived.Carry
import Derived.ChangeSlices
import Derived.ChangeSame
import Derived.ProofKit
namespace Go.Proofs.YtbhmdcdhklgomaaGreatDoor.Blk
open Go Go.RowKit Go.Proofs.YtbhmdcdhklgomaaGreatDoor

def w32 (n : Int) : Int := IntKind.u32.wrap n
def bx (a b : Int) : Int := bits .xor .u32 a b
def bo (a b : Int) : Int := bits .or .u32 a b
def rotl (x : Int) (s : Nat) : Int := bo (w32 (x * 2 ^ s)) (x / 2 ^ (32 - s))
def start : List Int := [1779033703, 3144134277, 1013904242, 2773480762, 1359893119, 2600822924, 528734635, 1541459225]
def perms : List Int := [81985529216486895, 16881918945140062035, 13312731748010193300, 8733003861693448440, 10400822202260547645, 3200383143768358425, 14204332651957162635, 15816291393287259690, 8064173457993569445, 11710614767857974480]
def quads : List (Nat × Nat × Nat × Nat) := [(0, 4, 8, 12), (1, 5, 9, 13), (2, 6, 10, 14), (3, 7, 11, 15), (0, 5, 10, 15), (1, 6, 11, 12), (2, 7, 8, 13), (3, 4, 9, 14)]
structure Quad where
  a : Int
  b : Int
  c : Int
  d : Int
def half (q : Quad) (x : Int) (r s : Nat) : Quad :=
  let a := w32 (q.a + w32 (q.b + x))
  let d := rotl (bx q.d a) r
  let c := w32 (q.c + d)
  let b := rotl (bx q.b c) s
  ⟨a, b, c, d⟩
def mixQ (q : Quad) (x y : Int) : Quad := half (half q x 16 20) y 24 25
def mix (v : List Int) (q : Nat × Nat × Nat × Nat) (x y : Int) : List Int :=
  let r := mixQ ⟨v.getD q.1 0, v.getD q.2.1 0, v.getD q.2.2.1 0, v.getD q.2.2.2 0⟩ x y
  (((v.set q.1 r.a).set q.2.1 r.b).set q.2.2.1 r.c).set q.2.2.2 r.d
def byte (s : List UInt8) (i : Nat) : Int := ((s.getD i 0).toNat : Int)
def word (s : List UInt8) (i : Nat) : Int := bo (bo (bo (byte s (4 * i)) (w32 (byte s (4 * i + 1) * 2 ^ 8))) (w32 (byte s (4 * i + 2) * 2 ^ 16))) (w32 (byte s (4 * i + 3) * 2 ^ 24))
def words (s : List UInt8) : List Int := (List.range 16).map (word s)
def pick (p : Int) (n : Nat) : Int := bits .and .u64 (p / 2 ^ n) 15
def turnQ (m : List Int) (p : Int) (v : List Int) (i : Nat) : List Int :=
  mix v (quads.getD i (0, 0, 0, 0)) (m.getD (pick p (60 - 8 * i)).toNat 0) (m.getD (pick p (56 - 8 * i)).toNat 0)
def turn (m : List Int) (v : List Int) (p : Int) : List Int := (List.range 8).foldl (turnQ m p) v
def begin (h : List Int) (count : Int) (last : Bool) : List Int :=
  let v := h ++ start
  let v := v.set 12 (bx (v.getD 12 0) (w32 count))
  let v := v.set 13 (bx (v.getD 13 0) (w32 (count / 2 ^ 32)))
  if last then v.set 14 (bx (v.getD 14 0) 4294967295) else v
def compress (h : List Int) (s : List UInt8) (count : Int) (last : Bool) : List Int :=
  let v := perms.foldl (turn (words s)) (begin h count last)
  (List.range 8).map fun i => bx (h.getD i 0) (bx (v.getD i 0) (v.getD (i + 8) 0))
def sumGo (s : List UInt8) : Nat → Nat → List Int → List Int
  | 0, _, h => h
  | f + 1, n, h => if 64 < s.length - n then sumGo s f (n + 64) (compress h ((s.drop n).take 64) (n + 64) false)
    else compress h (s.drop n ++ List.replicate (64 - (s.length - n)) 0) s.length true
def first : List Int := start.set 0 (bx 1779033703 16842784)
def out (x : Int) : List UInt8 := [UInt8.ofNat (IntKind.u8.wrap x).toNat, UInt8.ofNat (IntKind.u8.wrap (x / 2 ^ 8)).toNat, UInt8.ofNat (IntKind.u8.wrap (x / 2 ^ 16)).toNat, UInt8.ofNat (IntKind.u8.wrap (x / 2 ^ 24)).toNat]
def sum (s : List UInt8) : List UInt8 := (sumGo s (s.length / 64 + 1) 0 first).flatMap out
end Go.Proofs.YtbhmdcdhklgomaaGreatDoor.Blk

/-
  Sessions, drafts and archives in plain words, at BLAKE2s as the digest. No program.
-/
namespace Go.Proofs.YtbhmdcdhklgomaaGreatDoor.Top
open Go Go.Proofs.YtbhmdcdhklgomaaGreatDoor

structure Change where
  kind : Int
  path : Bs
  attrs : List Attr
  target : Bs
  content : Bs
structure Ses where
  num : Int
  date : Int
  prev : Bs
  entries : List Ent
  stream : Bs
  sign : Bs
structure Draft where
  num : Int
  date : Int
  prev : Bs
  entries : List Ent
  store : Store
  tree : List Ent
  holds : List Hold
def store0 : Store := ⟨[], 0, []⟩
def draft0 : Draft := ⟨0, 0, [], [], store0, [], []⟩

/-- The text that a session's digest is taken of. -/
def sesText (s : Ses) : Bs := num s.num ++ num s.date ++ str s.prev ++ (num s.stream.length ++ str (Blk.sum s.stream) ++ num s.entries.length) ++ s.entries.flatMap fun e => (encE e).2
def digestB (s : Ses) : Bs := Blk.sum (sesText s)
def lastD (l : List Ses) : Int := match l.getLast? with
  | some s => s.date
  | none => 0
def prevB (l : List Ses) : Bs := match l.getLast? with
  | some s => digestB s
  | none => []

/-! What results from all sessions. -/
structure Rep where
  store : Store
  tree : List Ent
  holds : List Hold
def rep0 : Rep := ⟨store0, [], []⟩
def repE (streams : List Bs) (date : Int) (d : Rep) (e : Ent) : Rep :=
  ⟨if e.kind = 1 then (put Blk.sum d.store (getB streams e.exts).1).1 else d.store,
   if (applyT d.tree e).1 = 0 then (applyT d.tree e).2 else d.tree,
   if (applyH d.holds e date).1 = 0 then (applyH d.holds e date).2 else d.holds⟩
def repS (streams : List Bs) (d : Rep) (s : Ses) : Rep := s.entries.foldl (repE streams s.date) ⟨(begin d.store (streams.length : Nat)).1, d.tree, d.holds⟩
def repGo : List Bs → Rep → List Ses → Rep
  | _, d, [] => d
  | ss, d, s :: l => repGo (ss ++ [s.stream]) (repS (ss ++ [s.stream]) d s) l
def replay (l : List Ses) : Rep := repGo [] rep0 l

/-! A session is written. -/
def beginS (l : List Ses) (date : Int) : Draft × Int :=
  if 255 ≤ l.length then (draft0, 6)
  else if date < 0 ∨ 1000000000 < date then (draft0, 2)
  else if date < lastD l then (draft0, 14)
  else if (begin (replay l).store ((l.length : Int) + 1)).2 ≠ 0 then (draft0, (begin (replay l).store ((l.length : Int) + 1)).2)
  else (⟨(l.length : Int) + 1, date, prevB l, [], (begin (replay l).store ((l.length : Int) + 1)).1, (replay l).tree, active (replay l).holds date⟩, 0)
def recE (s : Store) (c : Change) : Ent :=
  if c.kind = 1 then ⟨c.kind, c.path, c.attrs, c.target, c.content.length, Blk.sum c.content, if c.content.length ≤ 65536 then (put Blk.sum s c.content).2.1 else []⟩
  else ⟨c.kind, c.path, c.attrs, c.target, 0, [], []⟩
def recS (s : Store) (c : Change) : Store := if c.kind = 1 ∧ c.content.length ≤ 65536 then (put Blk.sum s c.content).1 else s
def forbid (d : Draft) (e : Ent) : Int :=
  if (get d.tree e.path).isSome = false ∧ 1 ≤ e.kind ∧ e.kind ≤ 3 then 0 else allowed d.holds e d.date
def addS (d : Draft) (c : Change) : Draft × Int :=
  if entErr (recE d.store c) ≠ 0 then (d, entErr (recE d.store c))
  else if c.content ≠ [] ∧ c.kind ≠ 1 then (d, 1)
  else if 400 ≤ d.entries.length ∨ 14680064 < (recS d.store c).stream.length then (d, 6)
  else if (applyT d.tree (recE d.store c)).1 ≠ 0 then (d, (applyT d.tree (recE d.store c)).1)
  else if forbid d (recE d.store c) ≠ 0 then (d, forbid d (recE d.store c))
  else if (applyH d.holds (recE d.store c) d.date).1 ≠ 0 then (d, (applyH d.holds (recE d.store c) d.date).1)
  else (⟨d.num, d.date, d.prev, d.entries ++ [recE d.store c], recS d.store c, (applyT d.tree (recE d.store c)).2, (applyH d.holds (recE d.store c) d.date).2⟩, 0)
def closeS (d : Draft) : Ses := ⟨d.num, d.date, d.prev, d.entries, d.store.stream, []⟩
def appendS (l : List Ses) (s : Ses) : List Ses × Int :=
  if 255 ≤ l.length then (l, 6)
  else if s.num ≠ (l.length : Int) + 1 ∨ (l ≠ [] ∧ s.date < lastD l) then (l, 14)
  else if s.prev ≠ prevB l then (l, 20)
  else (l ++ [s], 0)
def addAll (d : Draft) (l : List Change) : Draft := l.foldl (fun d c => if (addS d c).2 = 0 then (addS d c).1 else d) d
def writtenGo : Nat → List Ses → List (List Change) → List Ses
  | _, l, [] => l
  | i, l, c :: r => writtenGo (i + 1) (if (beginS l (10 * i + 10)).2 ≠ 0 then l else (appendS l (closeS (addAll (beginS l (10 * i + 10)).1 c))).1) r
def writtenL (all : List (List Change)) : List Ses := writtenGo 0 [] all

/-! The history of sessions. -/
def entriesOf (l : List Ses) : List (Int × Ent) := l.flatMap fun s => s.entries.map fun e => (s.date, e)
def afterS (l : List Ses) : St := foldS empty (entriesOf l)
def treeE (l : List Ses) (n : Int) : List Ent × Int := if n < 0 ∨ (l.length : Int) < n then ([], 2) else ((afterS (l.take n.toNat)).tree, 0)
def holdsE (l : List Ses) (n : Int) : List Hold := if n < 0 ∨ (l.length : Int) < n then [] else (afterS (l.take n.toNat)).holds
def asOf (l : List Ses) (date : Int) : Nat := (l.findIdx? fun s => decide (date < s.date)).getD l.length
def extOut (l : List Ses) (x : Ext) : Bool := if x.ses = 0 then false else decide ((l.length : Int) < x.ses) || decide ((((l[(x.ses - 1).toNat]?).map (·.stream)).getD []).length < x.off + x.len)
def stored (l : List Ses) (e : Ent) : Bool := !e.exts.any (extOut l)
def fieldsErr (s : Ses) : Int := if s.num < 1 ∨ 255 < s.num ∨ s.date < 0 ∨ 1000000000 < s.date then 2 else if s.prev ≠ [] ∧ s.prev.length ≠ 32 then 1 else 0
def encErr : List Ent → Int
  | [] => 0
  | e :: l => if entErr e ≠ 0 then entErr e else encErr l
def signedE (s : Ses) : Bs × Int :=
  if fieldsErr s ≠ 0 then ([], fieldsErr s)
  else if 14680064 < s.stream.length ∨ 400 < s.entries.length then ([], 6)
  else if encErr s.entries ≠ 0 then ([], encErr s.entries)
  else if 2000 < s.sign.length ∨ 90000000 < (sesText s).length then ([], 6)
  else (sesText s, 0)
def dirDigest (s : Ses) : Bs × Int := if (signedE s).2 ≠ 0 then ([], (signedE s).2) else (Blk.sum (signedE s).1, 0)
def checkEs (l : List Ses) (date : Int) : St → List Ent → St × Int
  | s, [] => (s, 0)
  | s, e :: r => if (applyS s e date).1 ≠ 0 then ((applyS s e date).2, (applyS s e date).1) else if stored l e = false then ((applyS s e date).2, 2) else checkEs l date (applyS s e date).2 r
def checkGo (l : List Ses) : Nat → Bs → Int → St → List Ses → Int
  | _, _, _, _, [] => 0
  | i, prev, date, s, x :: r =>
    if (dirDigest x).2 ≠ 0 then (dirDigest x).2
    else if x.num ≠ (i : Int) + 1 ∨ x.date < date then 14
    else if x.prev ≠ prev then 20
    else if (checkEs (l.take (i + 1)) x.date s x.entries).2 ≠ 0 then (checkEs (l.take (i + 1)) x.date s x.entries).2
    else checkGo l (i + 1) (dirDigest x).1 x.date (checkEs (l.take (i + 1)) x.date s x.entries).1 r
def checkL (l : List Ses) : Int := checkGo l 0 [] 0 empty l

/-! Export. -/
end Go.Proofs.YtbhmdcdhklgomaaGreatDoor.Top

/-
  Lists of changes in memory. No walk.
-/
namespace Go.Proofs.YtbhmdcdhklgomaaGreatDoor
open Go.RowKit Top

def chgL (c : Change) (av : Value) : List Value := [.int .i64 c.kind, .string ⟨c.path.toArray⟩, av, .string ⟨c.target.toArray⟩, .string ⟨c.content.toArray⟩]
def ChgC (w : World) (vs : List Value) (c : Change) : Prop := ∃ aa ac, vs = chgL c (.slice aa c.attrs.length ac) ∧ Flat attrC 2 w (.slice aa c.attrs.length ac) c.attrs
theorem ChgC.below {w w' : World} {vs : List Value} {c : Change} (h : ChgC w vs c) (hb : Below w.heap.size w w') : ChgC w' vs c := by
  obtain ⟨aa, ac, h1, h2⟩ := h
  exact ⟨aa, ac, h1, h2.below hb⟩
/-- A slice of changes. -/
def Chgs (w : World) (v : Value) (l : List Change) : Prop :=
  ∃ ao cap vss, v = .slice ao l.length cap ∧ l.length ≤ cap ∧ cap ≤ 9223372036854775807 ∧ Raw w ao 5 vss ∧ All2 (ChgC w) vss l
theorem Chgs.below {w w' : World} {v : Value} {l : List Change} (h : Chgs w v l) (hb : Below w.heap.size w w') : Chgs w' v l := by
  obtain ⟨ao, cap, vss, h1, h2, h3, h4, h5, h6⟩ := h
  exact ⟨ao, cap, vss, h1, h2, h3, h4.below hb, h5, fun j x y hx hy => (h6 j x y hx hy).below hb⟩
theorem Chgs.nil (w : World) : Chgs w (.slice none 0 0) [] := ⟨none, 0, [], rfl, by simp, by simp, Raw.nil _ _ _, rfl, fun j x y h => by simp at h⟩
theorem Chgs.form {w : World} {v : Value} {l : List Change} (h : Chgs w v l) : ∃ ao cap, v = .slice ao l.length cap ∧ l.length ≤ cap ∧ cap ≤ 9223372036854775807 := by
  obtain ⟨ao, cap, _, h1, h2, h3, _⟩ := h
  exact ⟨ao, cap, h1, h2, h3⟩
theorem Chgs.get {w : World} {l : List Change} {ao : Option Addr} {n cap : Nat} (h : Chgs w (.slice ao n cap) l) {j : Nat} {c : Change} (hj : l[j]? = some c) : ∃ bk o aa ac, ao = some ⟨bk, o, none⟩ ∧ Flat attrC 2 w (.slice aa c.attrs.length ac) c.attrs ∧
    w.cell? ⟨bk, o + j * 5, none⟩ = some (.int .i64 c.kind) ∧ w.cell? ⟨bk, o + j * 5 + 1, none⟩ = some (.string ⟨c.path.toArray⟩) ∧ w.cell? ⟨bk, o + j * 5 + 2, none⟩ = some (.slice aa c.attrs.length ac) ∧ w.cell? ⟨bk, o + j * 5 + 3, none⟩ = some (.string ⟨c.target.toArray⟩) ∧
    w.cell? ⟨bk, o + j * 5 + 4, none⟩ = some (.string ⟨c.content.toArray⟩) := by
  obtain ⟨ao', cap', vss, h1, h2, h3, h4, h5, h6⟩ := h
  injection h1 with h1 _ _
  subst h1
  have hjl := (List.getElem?_eq_some_iff.1 hj).1
  obtain ⟨vs, hv⟩ : ∃ vs, vss[j]? = some vs := ⟨_, List.getElem?_eq_getElem (by omega)⟩
  obtain ⟨_, bk, o, e, hc⟩ := h4 j vs hv
  obtain ⟨aa, ac, rfl, he⟩ := h6 j vs c hv hj
  exact ⟨bk, o, aa, ac, e, he, hc 0 _ rfl, hc 1 _ rfl, hc 2 _ rfl, hc 3 _ rfl, hc 4 _ rfl⟩
/-- A slice of slices of changes. -/
def Lists (w : World) (v : Value) (ll : List (List Change)) : Prop :=
  ∃ ao cap, v = .slice ao ll.length cap ∧ ll.length ≤ cap ∧ cap ≤ 9223372036854775807 ∧ ∀ (j : Nat) (l : List Change), ll[j]? = some l → ∃ bk o va, ao = some ⟨bk, o, none⟩ ∧ w.cell? ⟨bk, o + j, none⟩ = some va ∧ Chgs w va l
theorem Lists.below {w w' : World} {v : Value} {ll : List (List Change)} (h : Lists w v ll) (hb : Below w.heap.size w w') : Lists w' v ll := by
  obtain ⟨ao, cap, h1, h2, h3, h4⟩ := h
  refine ⟨ao, cap, h1, h2, h3, fun j l hj => ?_⟩
  obtain ⟨bk, o, va, e, hc, hl⟩ := h4 j l hj
  exact ⟨bk, o, va, e, (hb.cell (World.block_lt_of_cell? _ _ hc)).trans hc, hl.below hb⟩
theorem Lists.form {w : World} {v : Value} {ll : List (List Change)} (h : Lists w v ll) : ∃ ao cap, v = .slice ao ll.length cap ∧ ll.length ≤ cap ∧ cap ≤ 9223372036854775807 := by
  obtain ⟨ao, cap, h1, h2, h3, _⟩ := h
  exact ⟨ao, cap, h1, h2, h3⟩
theorem Lists.get {w : World} {ll : List (List Change)} {ao : Option Addr} {n cap : Nat} (h : Lists w (.slice ao n cap) ll) {j : Nat} {l : List Change} (hj : ll[j]? = some l) : ∃ bk o va ca, ao = some ⟨bk, o, none⟩ ∧ w.cell? ⟨bk, o + j, none⟩ = some (.slice va l.length ca) ∧ Chgs w (.slice va l.length ca) l := by
  obtain ⟨ao', cap', h1, h2, h3, h4⟩ := h
  injection h1 with h1 _ _
  subst h1
  obtain ⟨bk, o, va, e, hc, hl⟩ := h4 j l hj
  obtain ⟨va', ca, rfl, _⟩ := hl.form
  exact ⟨bk, o, va', ca, e, hc, hl⟩
/-! What steletop.small counts. -/
def attrCost (a : Top.Attr) : Nat := a.key.length + a.val.length
def costC (c : Change) : Nat := 20 + c.path.length + c.target.length + c.content.length + (c.attrs.map attrCost).sum
def costL (l : List Change) : Nat := (l.map costC).sum
def costA (ll : List (List Change)) : Nat := (ll.map costL).sum
theorem costL_len (l : List Change) : 20 * l.length ≤ costL l := by
  induction l with
  | nil => simp
  | cons c l ih =>
    unfold costL at ih ⊢
    rw [List.map_cons, List.sum_cons, List.length_cons]
    have : 20 ≤ costC c := by unfold costC; omega
    omega
theorem costL_mem {l : List Change} {c : Change} (h : c ∈ l) : costC c ≤ costL l := by
  induction l with
  | nil => cases h
  | cons x l ih =>
    unfold costL at ih ⊢
    rw [List.map_cons, List.sum_cons]
    rcases List.mem_cons.1 h with rfl | h
    · omega
    · have := ih h
      omega
theorem costA_mem {ll : List (List Change)} {l : List Change} (h : l ∈ ll) : costL l ≤ costA ll := by
  induction ll with
  | nil => cases h
  | cons x ll ih =>
    unfold costA at ih ⊢
    rw [List.map_cons, List.sum_cons]
    rcases List.mem_cons.1 h with rfl | h
    · omega
    · have := ih h
      omega
theorem costA_len (ll : List (List Change)) : 20 * (ll.map (·.length)).sum ≤ costA ll := by
  induction ll with
  | nil => simp
  | cons l ll ih =>
    unfold costA at ih ⊢
    rw [List.map_cons, List.sum_cons, List.map_cons, List.sum_cons]
    have := costL_len l
    omega
end Go.Proofs.YtbhmdcdhklgomaaGreatDoor

/-
  Arguments that are slices of integers; the row's last step, in which each argument reads as it did, whatever its type.
-/
namespace Go.Proofs.YtbhmdcdhklgomaaGreatDoor
open Go.RowKit Go.WideShapes Go.ChangeShapes Go.ChangeAt

/-- The value v is a slice that reads as the integers zs. -/
def IntsArg (w : World) (k : IntKind) (v : Value) (zs : List Int) : Prop :=
  ∃ ao cap, v = .slice ao zs.length cap ∧ zs.length ≤ cap ∧ cap ≤ maxLen ∧ (∀ i n, zs[i]? = some n → ∃ a, ao = some a ∧ w.cell? (a.add i) = some (.int k n)) ∧ ∀ n ∈ zs, (Lit.int k n).wf = true

theorem IntsArg.below {w w' : World} {k : IntKind} {v : Value} {zs : List Int} (h : IntsArg w k v zs) (hb : Below w.heap.size w w') : IntsArg w' k v zs := by
  obtain ⟨ao, cap, rfl, hl, hm, hc, hw⟩ := h
  refine ⟨ao, cap, rfl, hl, hm, fun i n hi => ?_, hw⟩
  obtain ⟨a, rfl, hcell⟩ := hc i n hi
  exact ⟨a, rfl, (hb.cell (World.block_lt_of_cell? _ _ hcell)).trans hcell⟩

section
variable {H : Type} {enc : TypeId × Value → H} {P : Program}

theorem trodAll_stays {W W' : World} {base : Nat} {sp : Nat → Bool} (hl : laidOutB P = true) : ∀ {ts : List TypeId} {vs : List Value} {ds : List (DataW H)} {ps : List MemPlace}, (∀ t ∈ ts, P.readableRec t = true ∧ t < P.types.size) →
    DataW.TrodAll enc P W base (fun _ => true) true ts vs ds ps → (∀ p ∈ ps, W.sameAt W' p) → (∀ p ∈ ps, sp p.block = true) → DataW.TrodAll enc P W' base sp true ts vs ds ps
  | [], [], [], _, _, h, _, _ => h
  | _ :: _, _ :: _, _ :: _, _, hT, ⟨p, q, h1, h2, e⟩, hm, hs =>
    ⟨p, q, WideElems.Trod_stays hl (hT _ (List.mem_cons_self ..)).1 (hT _ (List.mem_cons_self ..)).2 h1 (fun x hx => hm x (by rw [e]; exact List.mem_append_left _ hx)) (fun x hx => hs x (by rw [e]; exact List.mem_append_left _ hx)),
      trodAll_stays hl (fun t ht => hT t (List.mem_cons_of_mem _ ht)) h2 (fun x hx => hm x (by rw [e]; exact List.mem_append_right _ hx)) (fun x hx => hs x (by rw [e]; exact List.mem_append_right _ hx)), e⟩

theorem post_of_reads {f : Func} {s : ChangeSpec} {apart fresh handsOn again : Bool} {W W' : World} {args : Array Value} {v : Value} {ds : List (DataW H)} {before : List MemPlace}
    (hl : laidOutB P = true) (hT : ∀ t ∈ f.params.toList, P.readableRec t = true ∧ t < P.types.size)
    (hW : DataW.Whole enc P f.params.toList s.vars apart W args.toList ds [] before) (hA : DataW.TrodAll enc P W 0 (fun _ => true) true f.params.toList args.toList ds before)
    (hargs : (s.fn H ds).args = ds) (hv0 : s.vars = []) (hv1 : (s.fn H ds).vars = [])
    (hres : ∀ (b : Nat) (sp : Nat → Bool) (hd : Bool), DataW.TrodAll enc P W' b sp hd f.resultTypes.toList (v.resultList f.resultTypes.size) (s.fn H ds).results [])
    (hb : Below W.heap.size W W')
    (hok : ∀ (j : Nat) (t : TypeId) (r : Value), f.resultTypes[j]? = some t → (v.resultList f.resultTypes.size)[j]? = some r → Value.okWide P W' .any 0 t r) :
    s.post enc P f apart fresh handsOn again W args v W' := by
  have hlt : ∀ p ∈ before, p.block < W.heap.size := fun p hp => hW.lt p hp
  have hsame : ∀ p ∈ before, W.sameAt W' p := fun p hp => hb.same (hlt p hp)
  have A : ∀ sp : Nat → Bool, (∀ p ∈ before, sp p.block = true) → DataW.TrodAll enc P W' 0 sp true f.params.toList args.toList (s.fn H ds).args before := fun sp hs => by
    rw [hargs]
    exact trodAll_stays hl hT hA hsame hs
  have V : ∀ sp : Nat → Bool, DataW.TrodVars enc P W' sp s.vars (s.fn H ds).vars [] := fun sp => by
    rw [hv0, hv1]
    rfl
  have hold : ∀ p ∈ before, (fun b => decide (b < W.heap.size)) p.block = true := fun p hp => by simpa using hlt p hp
  refine ⟨ds, [], before, [], before, [], hW, by rw [List.append_nil]; exact hres _ _ _, by rw [List.append_nil]; exact A _ hold, by rw [List.append_nil]; exact V _, World.keptBut_mono (fun p hp => ⟨hp, ?_⟩) (hb.frame (· ∈ before)), fun _ => ?_⟩
  · exact Or.inr (Or.inl hp)
  · obtain ⟨_, _, _, _, _, hz, hn⟩ := hW
    refine ⟨hok, _, _, ([] ++ before) ++ [], ⟨[] ++ before, [], trodAll_append (A _ (fun _ _ => rfl)) (hres _ _ _), V _, rfl, ?_, ?_⟩, ?_⟩
    · intro b off hp
      have hin : MemPlace.cell b off ∈ before := by simpa using hp
      rw [hb.frozen (hlt _ hin)]
      exact hz b off hin
    · intro ha
      simpa using hn ha
    · intro p hp _
      simpa using hp
end
end Go.Proofs.YtbhmdcdhklgomaaGreatDoor
