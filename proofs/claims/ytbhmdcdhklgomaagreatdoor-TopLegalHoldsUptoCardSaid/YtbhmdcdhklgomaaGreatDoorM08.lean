/-
  append of a slice that is read, by its cells; slices.Clone of entries, sessions, chunks, attributes. (Written by gen_tclone.py.)
-/
import Derived.Test.YtbhmdcdhklgomaaGreatDoorM07
import Derived.Test.YtbhmdcdhklgomaaGreatDoorM02
namespace Go.Proofs.YtbhmdcdhklgomaaGreatDoor
open Go.RowKit Top

theorem app_none {P : Program} (w : World) (base : Nat) (t ty e : TypeId) (i : TypeInfo) (size : Nat) (ht : P.underlying t = some (.slice e)) (hi : P.info? e = some i)
    (v : Value) (n : Nat) (xs : List Value) (hown : w.ownsRow base e size v n xs) (c : Nat) : (Builtin.append_ #[t, t] ty #[v, .slice none 0 c]).run P w = .ok v w := by
  rcases hown.2 with ⟨rfl, rfl⟩ | ⟨g, cap, cur, rfl, _, _, hnc, _⟩
  · simp [Builtin.append_, run_underlying ht, sizeOf, typeInfo, hi, Builtin.lenOf, Builtin.firstCells]
  · simp [Builtin.append_, run_underlying ht, sizeOf, typeInfo, hi, Builtin.lenOf, Builtin.firstCells, hnc, storeCells]
theorem flatten_get {α : Type} (k : Nat) : ∀ (vss : List (List α)) (j i : Nat) (vs : List α), (∀ x ∈ vss, x.length = k) → vss[j]? = some vs → i < k → vss.flatten[j * k + i]? = vs[i]?
  | [], j, i, vs, _, h, _ => by simp at h
  | x :: vss, 0, i, vs, hk, h, hi => by
    obtain rfl : x = vs := by simpa using h
    rw [List.flatten_cons, Nat.zero_mul, Nat.zero_add, List.getElem?_append_left (by rw [hk x (List.mem_cons_self ..)]; exact hi)]
  | x :: vss, j + 1, i, vs, hk, h, hi => by
    have ih := flatten_get k vss j i vs (fun y hy => hk y (List.mem_cons_of_mem _ hy)) (by simpa using h) hi
    rw [List.flatten_cons, Nat.succ_mul, List.getElem?_append_right (by rw [hk x (List.mem_cons_self ..)]; omega), hk x (List.mem_cons_self ..), ← ih]
    congr 1
    omega
theorem flatten_len {α : Type} (k : Nat) : ∀ (vss : List (List α)), (∀ x ∈ vss, x.length = k) → vss.flatten.length = vss.length * k
  | [], _ => by simp
  | x :: vss, h => by
    rw [List.flatten_cons, List.length_append, flatten_len k vss (fun y hy => h y (List.mem_cons_of_mem _ hy)), h x (List.mem_cons_self ..), List.length_cons, Nat.succ_mul, Nat.add_comm]
theorem flatten_take {α : Type} (k : Nat) : ∀ (vss : List (List α)) (i : Nat), (∀ x ∈ vss, x.length = k) → (vss.take i).flatten = vss.flatten.take (i * k)
  | [], i, _ => by simp
  | x :: vss, 0, _ => by simp
  | x :: vss, i + 1, h => by
    rw [List.take_succ_cons, List.flatten_cons, List.flatten_cons, flatten_take k vss i (fun y hy => h y (List.mem_cons_of_mem _ hy)), Nat.succ_mul, Nat.add_comm]
    have := h x (List.mem_cons_self ..)
    rw [List.take_append, List.take_of_length_le (l := x) (by omega), show k + i * k - x.length = i * k by omega]
theorem flatten_drop {α : Type} (k : Nat) : ∀ (vss : List (List α)) (i : Nat), (∀ x ∈ vss, x.length = k) → (vss.drop i).flatten = vss.flatten.drop (i * k)
  | [], i, _ => by simp
  | x :: vss, 0, _ => by simp
  | x :: vss, i + 1, h => by
    rw [List.drop_succ_cons, List.flatten_cons, flatten_drop k vss i (fun y hy => h y (List.mem_cons_of_mem _ hy)), Nat.succ_mul, Nat.add_comm]
    have := h x (List.mem_cons_self ..)
    rw [List.drop_append, List.drop_of_length_le (l := x) (by omega), List.nil_append, show k + i * k - x.length = i * k by omega]
theorem Raw.lens {w : World} {ao : Option Addr} {k : Nat} {vss : List (List Value)} (h : Raw w ao k vss) : ∀ x ∈ vss, x.length = k := fun x hx => by
  obtain ⟨j, hj⟩ := List.mem_iff_getElem?.1 hx
  exact (h j x hj).1
/-- A row of the call's own is read. -/
theorem Raw.of_own {w : World} {B : Nat} {E : TypeId} {k n cap : Nat} {ao : Option Addr} {vss : List (List Value)} (h : w.ownsRow B E k (.slice ao n cap) vss.length vss.flatten) (hk : ∀ x ∈ vss, x.length = k) : Raw w ao k vss := fun j vs hj => by
  have hl := (List.getElem?_eq_some_iff.1 hj).1
  have hvk := hk vs (List.mem_of_getElem? hj)
  obtain ⟨g, cap', hv, _, _⟩ := World.ownsRow.form h (by omega)
  have hao : ao = some ⟨g, 0, none⟩ := by injection hv
  subst hao
  refine ⟨hvk, g, 0, rfl, fun i u hi => ?_⟩
  have hil := (List.getElem?_eq_some_iff.1 hi).1
  rw [hvk] at hil
  have := World.ownsRow.cells h (g := g) rfl (j * k + i) u ((flatten_get k vss j i vs hk hj hil).trans hi)
  rw [Addr.add_lit] at this
  rw [Nat.zero_add] at this ⊢
  exact this
/-- append(a, b...), a the call's own, b read. -/
theorem wpList_appRaw {P : Program} (E T : TypeId) (k bytes : Nat) (z : Value) (hinfo : (P.info? E).map (fun i => (i.zero, i.size, i.bytes)) = some (some z, k, bytes)) (hT : P.underlying T = some (.slice E)) (hz : z.cells.size = k) (hk : 0 < k) (hb0 : bytes ≤ 1024)
    {ops : Array Oper} {rest : List Oper} {o : Oper} {a : Act} {Q : Exit → Act → World → Prop} {w : World} (hgd : o.guard = none) (s x : Operand)
    (ho : o.op = .call { callee := .builtin .append, args := #[s, x], argTypes := #[T, T] }) (B : Nat) (v : Value) (n0 : Nat) (xs : List Value) (hs : a.eval s = v) (hown : w.ownsRow B E k v n0 xs)
    (ao : Option Addr) (n c : Nat) (vss : List (List Value)) (hx : a.eval x = .slice ao n c) (hr : Raw w ao k vss) (hn : n = vss.length) (h1 : ∀ vs ∈ vss, ∀ u ∈ vs, u.oneCell' = true) (hlen : n0 + n ≤ 16777216) (hB : B ≤ w.heap.size)
    (h : ∀ v' w', w'.ownsRow B E k v' (n0 + n) (xs ++ vss.flatten) → Below B w w' → w.grownBy w' v.ownBlock → wpList P ops Q rest (a.put o.dst v') w') :
    wpList P ops Q (o :: rest) a w := by
  obtain ⟨i, hi, hz0, hz1, hz2⟩ := parts_of hinfo
  rcases ao with _ | ad
  · obtain rfl : vss = [] := by
      cases vss with
      | nil => rfl
      | cons y r =>
        obtain ⟨_, bk, o, e, _⟩ := hr 0 y rfl
        cases e
    obtain rfl : n = 0 := hn
    refine Lib.wpList_append_run w hgd s x _ _ ho _ _ hs hx v w (app_none w B _ _ _ i k hT hi v _ _ hown c) ?_
    exact h v w (by simpa using hown) (Below.refl _ _) ⟨rfl, rfl, rfl, Nat.le_refl _, fun _ _ _ => rfl⟩
  · have hfl := flatten_len k vss hr.lens
    refine wpList_append_own _ hgd s x T ho B E i _ k bytes hT hi hz0 hz1 hz2 hz hk v n0 xs hs hown ad n c vss.flatten hx (by rw [hfl, hn]) ?_ ?_ ?_ ?_ hB ?_
    · intro j u hj
      have hjl := (List.getElem?_eq_some_iff.1 hj).1
      rw [hfl] at hjl
      have hq : j / k < vss.length := by
        rw [Nat.div_lt_iff_lt_mul hk]
        exact hjl
      obtain ⟨vs, hv⟩ : ∃ vs, vss[j / k]? = some vs := ⟨_, List.getElem?_eq_getElem hq⟩
      obtain ⟨hvk, bk, o, e, hc⟩ := hr _ vs hv
      injection e with e
      subst e
      have hm := Nat.mod_lt j hk
      have he : j = j / k * k + j % k := by rw [Nat.mul_comm]; exact (Nat.div_add_mod j k).symm
      have := flatten_get k vss (j / k) (j % k) vs hr.lens hv hm
      rw [← he, hj] at this
      rw [Addr.add_lit, he, ← Nat.add_assoc]
      exact hc _ u this.symm
    · intro u hu
      obtain ⟨vs, h2, h3⟩ := List.mem_flatten.1 hu
      exact h1 vs h2 u h3
    · unfold maxLen
      omega
    · have : (n0 + n) * bytes ≤ 16777216 * 1024 := Nat.mul_le_mul (by omega) hb0
      omega
    · intro v' w' hown' hg _
      exact h v' w' hown' ((Below.refl B w).grown hg hB fun k hk => (World.ownsRow.lt hown k hk).1) hg
theorem eql_nil_ent (w : World) (a : Option Addr) (n c n' c' : Nat) : (binOp .eql 32 (.slice a n c) (.slice none n' c')).run Tryz.prog w = .ok (.bool a.isNone) w := Lib.run_eql_slice_nil w _ _ a n c n' c' Tryz.underlying32
set_option maxHeartbeats 2000000 in
set_option maxRecDepth 100000 in
theorem clone_ent (ao : Option Addr) (n c : Nat) (vss : List (List Value)) (w : World) (hr : Raw w ao 7 vss) (hn : n = vss.length) (h1 : ∀ vs ∈ vss, ∀ u ∈ vs, u.oneCell' = true) (hlen : n ≤ 65536) :
    Calls Tryz.prog 62 #[.slice ao n c] w fun e w' => ∃ v, e = .returned v ∧ w'.ownsRow w.heap.size 43 7 v n vss.flatten ∧ Below w.heap.size w w' := by
  have qT := eql_nil_ent
  rcases ao with _ | ad
  · obtain rfl : vss = [] := by
      cases vss with
      | nil => rfl
      | cons y r =>
        obtain ⟨_, bk, o, e, _⟩ := hr 0 y rfl
        cases e
    obtain rfl : n = 0 := hn
    clear hr h1
    go_enter Tryz.func62, Tryz.ntmps62
    go_wp2_with fail
    go_ret
    exact ⟨_, rfl, World.ownsRow_nil _ _ _ _, Below.refl _ _⟩
  · have hbA := (Below.refl w.heap.size w).alloc (Nat.le_refl _) (.cells #[] 43)
    have HR := Lib.hid (hr.below hbA)
    have HM := Lib.hid (World.ownsRow_made (base := w.heap.size) (e := 43) (size := 7) w #[] 0 (Nat.le_refl _) (by simp [maxLen]) rfl)
    have HN := Lib.hid hn
    have HBA := Lib.hid hbA
    have hsz : w.heap.size ≤ (w.alloc (.cells #[] 43)).heap.size := by simp
    clear hr hbA hn
    go_enter Tryz.func62, Tryz.ntmps62
    go_wp2_with (at_builtin; refine wpList_appRaw 43 32 7 112 _ info_ent Tryz.underlying32 rfl (by decide) (by decide) rfl (.tmp 5) (.tmp 6) rfl w.heap.size _ 0 [] rfl HM.out _ _ _ vss rfl HR.out HN.out h1 (by omega) hsz ?_; intro v' w' ho hb _)
    go_ret
    rw [Nat.zero_add, List.nil_append] at ho
    exact ⟨_, rfl, ho, HBA.out.trans hb⟩
theorem info_attr : (Tryz.prog.info? 81).map (fun i => (i.zero, i.size, i.bytes)) = some (some (.agg #[.string ByteArray.empty, .string ByteArray.empty]), 2, 32) := by kernel_rfl
theorem eql_nil_attr (w : World) (a : Option Addr) (n c n' c' : Nat) : (binOp .eql 40 (.slice a n c) (.slice none n' c')).run Tryz.prog w = .ok (.bool a.isNone) w := Lib.run_eql_slice_nil w _ _ a n c n' c' Tryz.underlying40
end Go.Proofs.YtbhmdcdhklgomaaGreatDoor

/-
  dirtree.find, Get, directory, inTree; history.creates, has.
-/
namespace Go.Proofs.YtbhmdcdhklgomaaGreatDoor
open Go.RowKit Top

theorem str_eq (x y : List UInt8) : ((⟨x.toArray⟩ : ByteArray).toList == (⟨y.toArray⟩ : ByteArray).toList) = (x == y) := by
  rw [Lib.toList_data, Lib.toList_data]

set_option maxHeartbeats 1000000 in
set_option maxRecDepth 100000 in
theorem findc_any (v : Value) (e : Ent) (P : List UInt8) (pb : Nat) (w : World) (hv : EntV w v e) (hp : w.cell? ⟨pb, 0, none⟩ = some (.string ⟨P.toArray⟩)) :
    Calls Tryz.prog 74 #[v, .pointer (some ⟨pb, 0, none⟩)] w fun en w' => en = .returned (.bool (e.path == P)) ∧ Below w.heap.size w w' := by
  obtain ⟨aa, ac, ea, ec, rfl, _, _⟩ := hv
  obtain ⟨W, hW, hbW, hzW, d0, d1, d2, d3, d4, d5, d6⟩ := ebox w e (.slice aa e.attrs.length ac) (.slice ea e.exts.length ec)
  have hpl := World.block_lt_of_cell? _ _ hp
  have hp := (hbW.cell (p := ⟨pb, 0, none⟩) hpl).trans hp
  have hq := str_eq e.path P
  obtain ⟨b, hb⟩ : ∃ b, (e.path == P) = b := ⟨_, rfl⟩
  rw [hb] at hq ⊢
  clear hb
  generalize (⟨P.toArray⟩ : ByteArray) = U at *
  generalize (⟨e.path.toArray⟩ : ByteArray) = V at *
  go_enter Tryz.func74, Tryz.ntmps74
  go_wp2_with fail
  go_ret
  exact ⟨rfl, hbW⟩
def idxI (t : List Ent) (p : Bs) : Int := match Top.find t p with
  | some i => i
  | none => -1
theorem find_at {t : List Ent} {p : Bs} {k : Nat} {x : Ent} (h : ∀ y ∈ t.take k, y.path ≠ p) (hx : t[k]? = some x) (hp : x.path = p) : idxI t p = k := by
  have : Top.find t p = some k := by
    unfold Top.find
    rw [List.findIdx?_eq_some_iff_getElem]
    obtain ⟨hl, he⟩ := List.getElem?_eq_some_iff.1 hx
    refine ⟨hl, by rw [he]; simpa using hp, fun j hj => ?_⟩
    have := h t[j] (List.mem_iff_getElem?.2 ⟨j, by rw [List.getElem?_take, if_pos hj, List.getElem?_eq_getElem]⟩)
    simpa using this
  unfold idxI
  rw [this]
theorem find_no {t : List Ent} {p : Bs} (h : ∀ y ∈ t, y.path ≠ p) : idxI t p = -1 := by
  unfold idxI
  rw [find_none.2 h]
theorem take_all {α : Type} {P : α → Prop} {l : List α} {k : Nat} {x : α} (h : ∀ y ∈ l.take k, P y) (hx : l[k]? = some x) (hp : P x) : ∀ y ∈ l.take (k + 1), P y := by
  rw [List.take_add_one, hx]
  intro y hy
  rcases List.mem_append.1 hy with h1 | h1
  · exact h y h1
  · rw [Option.toList_some, List.mem_singleton] at h1
    rw [h1]
    exact hp

set_option maxHeartbeats 2000000 in
set_option maxRecDepth 100000 in
theorem idxEnt_any (tv : Value) (t : List Ent) (P : List UInt8) (pb : Nat) (w : World) (ht : Ents w tv t) (hp : w.cell? ⟨pb, 0, none⟩ = some (.string ⟨P.toArray⟩)) :
    Calls Tryz.prog 73 #[tv, .func (.func 74) #[] #[.pointer (some ⟨pb, 0, none⟩)]] w fun en w' => en = .returned (.int .i64 (idxI t P)) ∧ Below w.heap.size w w' := by
  obtain ⟨ao, cap, rfl, hlc, hcm⟩ := ht.form
  have HT := Lib.hid ht
  have hpl := World.block_lt_of_cell? _ _ hp
  have HP := Lib.hid hp
  clear ht hp
  go_enter Tryz.func73, Tryz.ntmps73
  go_wp2_with fail
  go_loopw [8] (fun i wr => ∃ k : Nat, k ≤ t.length ∧ i = .int .i64 k ∧ Hid (∀ y ∈ t.take k, y.path ≠ P) ∧ Below w.heap.size w wr) (fun i _ => t.length - (intOf i).toNat)
  case atStart => exact ⟨0, Nat.zero_le _, rfl, fun y hy => by simp at hy, Below.refl _ _⟩
  case round =>
    obtain ⟨k, hk, rfl, hok, hb⟩ := hrel
    by_cases hlt : k < t.length
    · obtain ⟨x, hx⟩ : ∃ x, t[k]? = some x := ⟨_, List.getElem?_eq_getElem (by omega)⟩
      obtain ⟨bk, o, aa, ac, ea, ec, rfl, ha, he, c0, c1, c2, c3, c4, c5, c6⟩ := (HT.out.below hb).get hx
      have hc := findc_any _ x P pb wr ⟨aa, ac, ea, ec, rfl, ha, he⟩ ((hb.cell (p := ⟨pb, 0, none⟩) hpl).trans HP.out)
      have HX := Lib.hid hx
      obtain ⟨b, hb1⟩ : ∃ b, (x.path == P) = b := ⟨_, rfl⟩
      rw [hb1] at hc
      have HB := Lib.hid hb1
      have HC := Lib.hid hc
      clear hx hc hb1 ha he
      cases b
      · go_wp2_with fail
        refine HC.out.mono ?_
        rintro en w' ⟨rfl, hb2⟩
        go_wp2_with fail
        go_roundw
        case rel => exact ⟨k + 1, by omega, by go_num, take_all hok.out HX.out (by simpa using HB.out), hb.trans (hb2.mono hb.size)⟩
        case measure => simp [intOf]; omega
      · go_wp2_with fail
        refine HC.out.mono ?_
        rintro en w' ⟨rfl, hb2⟩
        go_wp2_with fail
        go_ret
        refine ⟨?_, hb.trans (hb2.mono hb.size)⟩
        rw [find_at hok.out HX.out (by simpa using HB.out)]
        rfl
    · obtain rfl : k = t.length := by omega
      have h := hok.out
      rw [List.take_length] at h
      have H := Lib.hid h
      clear h
      go_wp2_with fail
      go_ret
      exact ⟨by rw [find_no H.out]; rfl, hb⟩

set_option maxHeartbeats 1000000 in
theorem find_any (tv : Value) (t : List Ent) (P : List UInt8) (w : World) (ht : Ents w tv t) :
    Calls Tryz.prog 34 #[tv, .string ⟨P.toArray⟩] w fun en w' => en = .returned (.int .i64 (idxI t P)) ∧ Below w.heap.size w w' := by
  have h := heap_alloc_new w (.cells #[.string ⟨P.toArray⟩] 9)
  have hp := tcell h 0 _ rfl
  have hbW := (Below.refl _ w).alloc (Nat.le_refl _) (.cells #[.string ⟨P.toArray⟩] 9)
  have HC := Lib.hid (idxEnt_any tv t P w.heap.size _ (ht.below hbW) hp)
  have HB := Lib.hid hbW
  clear ht h hp hbW
  go_enter Tryz.func34, Tryz.ntmps34
  go_wp2_with fail
  refine HC.out.mono ?_
  rintro en w' ⟨rfl, hb2⟩
  go_wp2_with fail
  go_ret
  exact ⟨rfl, HB.out.trans (hb2.mono (HB.out.size))⟩
end Go.Proofs.YtbhmdcdhklgomaaGreatDoor

/-
  dirtree.Get, directory, inTree; history.creates, has.
-/
namespace Go.Proofs.YtbhmdcdhklgomaaGreatDoor
open Go.RowKit Top

/-- An entry of zeros. -/
def zeroE : Ent := ⟨0, [], [], [], 0, [], []⟩
def getE (t : List Ent) (p : Bs) : Ent := (Top.get t p).getD zeroE
theorem get_cases (t : List Ent) (p : Bs) : (idxI t p = -1 ∧ Top.get t p = none) ∨ ∃ i x, idxI t p = (i : Nat) ∧ t[i]? = some x ∧ Top.get t p = some x := by
  unfold idxI
  cases h : Top.find t p with
  | none => exact .inl ⟨rfl, get_none.2 (find_none.1 h)⟩
  | some i =>
    obtain ⟨x, h1, h2, _⟩ := find_get h
    exact .inr ⟨i, x, rfl, h1, h2⟩
theorem zero_EntV (w : World) : EntV w (.agg #[.int .i64 0, .string ⟨#[]⟩, .slice none 0 0, .string ⟨#[]⟩, .int .i64 0, .string ⟨#[]⟩, .slice none 0 0]) zeroE := ⟨none, 0, none, 0, rfl, Flat.nil _ _ _, Flat.nil _ _ _⟩

abbrev zeroA : Array Value := #[.int .i64 0, .string ⟨#[]⟩, .slice none 0 0, .string ⟨#[]⟩, .int .i64 0, .string ⟨#[]⟩, .slice none 0 0]

set_option maxHeartbeats 2000000 in
set_option maxRecDepth 100000 in
theorem get_any (tv : Value) (t : List Ent) (P : List UInt8) (w : World) (ht : Ents w tv t) :
    Calls Tryz.prog 12 #[tv, .string ⟨P.toArray⟩] w fun en w' => ∃ v, en = .returned (.tuple #[v, .bool (Top.get t P).isSome]) ∧ EntV w' v (getE t P) ∧ Below w.heap.size w w' := by
  obtain ⟨ao, cap, rfl, hlc, hcm⟩ := ht.form
  have HT := Lib.hid ht
  have hf := fun X (hX : Below w.heap.size w X) => find_any _ t P X (ht.below hX)
  have hbA := (Below.refl w.heap.size w).alloc (Nat.le_refl _) (.cells zeroA 43)
  have hblk := heap_alloc_new w (.cells zeroA 43)
  have hsA : w.heap.size < (w.alloc (.cells zeroA 43)).heap.size := by simp
  rcases get_cases t P with ⟨h1, h2⟩ | ⟨i, x, h1, h2, h3⟩
  · rw [h1] at hf
    have HF := Lib.hid (hf _ hbA)
    have HG : Hid (getE t P = zeroE) := by show _ = _; unfold getE; rw [h2]; rfl
    rw [h2]
    have HBA := Lib.hid hbA
    have HBLK := Lib.hid hblk
    clear hf h1 h2 ht hbA hblk
    generalize (⟨P.toArray⟩ : ByteArray) = U at *
    go_enter Tryz.func12, Tryz.ntmps12
    go_wp2_with fail
    refine HF.out.mono ?_
    rintro en w' ⟨rfl, hb2⟩
    have HB2 : Hid (w'.heap[w.heap.size]? = some (.cells zeroA 43 (0, 0))) := (hb2.block _ hsA).trans HBLK.out
    obtain ⟨k0, k1, k2, k3, k4, k5, k6, f0, f1, f2, f3, f4, f5, f6⟩ := row7 HB2.out
    obtain ⟨s7, b7⟩ := set7 HB2.out (Nat.le_refl w.heap.size) (.int .i64 0) (.string ⟨#[]⟩) (.slice none 0 0) (.string ⟨#[]⟩) (.int .i64 0) (.string ⟨#[]⟩) (.slice none 0 0)
    have S7 := Lib.hid s7
    clear s7
    go_wp2_with fail
    try simp only [Exit.inBlock, Exit.then]
    refine bodyPost_ret (results_row_tmp rfl _ _ w.heap.size 43 _ (0, 0) _ rfl S7.out Tryz.underlying43 rfl (by kernel_rfl)) rfl ?_
    rw [HG.out]
    exact ⟨_, rfl, zero_EntV _, (HBA.out.trans (hb2.mono HBA.out.size)).trans b7⟩
  · rw [h1] at hf
    have HF := Lib.hid (hf _ hbA)
    have HG : Hid (getE t P = x) := by show _ = _; unfold getE; rw [h3]; rfl
    rw [h3]
    have hil := (List.getElem?_eq_some_iff.1 h2).1
    obtain ⟨bk, o, aa, ac, ea, ec, rfl, ha, he, c0, c1, c2, c3, c4, c5, c6⟩ := ht.get h2
    have hl := World.block_lt_of_cell? _ _ c0
    have q1 : ¬ ((i : Int) < 0) := by omega
    have q2 : (i : Int) < (t.length : Int) := by omega
    have HBA := Lib.hid hbA
    have HBLK := Lib.hid hblk
    have HA := Lib.hid ha
    have HE := Lib.hid he
    clear hf h1 h2 h3 ht hbA hblk ha he
    generalize (⟨P.toArray⟩ : ByteArray) = U at *
    go_enter Tryz.func12, Tryz.ntmps12
    go_wp2_with fail
    refine HF.out.mono ?_
    rintro en w' ⟨rfl, hb2⟩
    have HB2 : Hid (w'.heap[w.heap.size]? = some (.cells zeroA 43 (0, 0))) := (hb2.block _ hsA).trans HBLK.out
    have hbb := HBA.out.trans (hb2.mono HBA.out.size)
    have c0 := (hbb.cell (p := ⟨bk, o + i * 7, none⟩) hl).trans c0
    have c1 := (hbb.cell (p := ⟨bk, o + i * 7 + 1, none⟩) hl).trans c1
    have c2 := (hbb.cell (p := ⟨bk, o + i * 7 + 2, none⟩) hl).trans c2
    have c3 := (hbb.cell (p := ⟨bk, o + i * 7 + 3, none⟩) hl).trans c3
    have c4 := (hbb.cell (p := ⟨bk, o + i * 7 + 4, none⟩) hl).trans c4
    have c5 := (hbb.cell (p := ⟨bk, o + i * 7 + 5, none⟩) hl).trans c5
    have c6 := (hbb.cell (p := ⟨bk, o + i * 7 + 6, none⟩) hl).trans c6
    go_wp2_with (refine wpList_store_row rfl 43 (.tmp 4) (.tmp 16) rfl w.heap.size #[.int .i64 x.kind, .string ⟨x.path.toArray⟩, .slice aa x.attrs.length ac, .string ⟨x.target.toArray⟩, .int .i64 x.size, .string ⟨x.digest.toArray⟩, .slice ea x.exts.length ec] rfl rfl 43 zeroA HB2.out (by kernel_rfl) rfl ?_ ?_)
    · simp [Value.oneCell']
    · try simp only [Exit.inBlock, Exit.then]
      refine bodyPost_ret (results_row_tmp rfl _ _ w.heap.size 43 _ (0, 0) _ rfl (setRow_heap _ _ _ _ _ _ HB2.out) Tryz.underlying43 rfl (by kernel_rfl)) rfl ?_
      rw [HG.out]
      have hbS := fun cs => hbb.trans (below_setRow (Below.refl w.heap.size w') (Nat.le_refl _) cs)
      exact ⟨_, rfl, ⟨_, _, _, _, rfl, HA.out.below (hbS _), HE.out.below (hbS _)⟩, hbS _⟩
end Go.Proofs.YtbhmdcdhklgomaaGreatDoor

/-
  dirtree.directory, inTree; history.creates, has.
-/
namespace Go.Proofs.YtbhmdcdhklgomaaGreatDoor
open Go.RowKit Top

set_option maxHeartbeats 1000000 in
theorem inTree_any (k : Int) (w : World) : Calls Tryz.prog 92 #[.int .i64 k] w fun en w' => en = .returned (.bool (k == 1 || k == 2 || k == 3)) ∧ w = w' := by
  by_cases h1 : k = 1
  · subst h1
    go_enter Tryz.func92, Tryz.ntmps92
    go_wp2_with fail
    go_ret
    exact ⟨rfl, rfl⟩
  · have e1 : (k == 1) = false := beq_eq_false_iff_ne.2 h1
    by_cases h2 : k = 2
    · subst h2
      go_enter Tryz.func92, Tryz.ntmps92
      go_wp2_with fail
      go_ret
      exact ⟨rfl, rfl⟩
    · have e2 : (k == 2) = false := beq_eq_false_iff_ne.2 h2
      have e3 : (k == 1 || k == 2 || k == 3) = (k == 3) := by rw [e1, e2]; rfl
      rw [e3]
      clear e3 h1 h2
      go_enter Tryz.func92, Tryz.ntmps92
      go_wp2_with fail
      go_ret
      exact ⟨rfl, rfl⟩
set_option maxHeartbeats 2000000 in
set_option maxRecDepth 100000 in
theorem directory_any (tv : Value) (t : List Ent) (P : List UInt8) (w : World) (ht : Ents w tv t) :
    Calls Tryz.prog 96 #[tv, .string ⟨P.toArray⟩] w fun en w' => en = .returned (.int .i64 (dirErr t P)) ∧ Below w.heap.size w w' := by
  have HG := Lib.hid (get_any tv t P w ht)
  have hp : ((⟨P.toArray⟩ : ByteArray).toList == []) = decide (P = []) := by
    rw [Lib.toList_data]
    cases P <;> rfl
  by_cases hn : P = []
  · have he : dirErr t P = 0 := by unfold dirErr; rw [if_pos hn]
    rw [he]
    rw [decide_eq_true hn] at hp
    clear he ht hn
    generalize (⟨P.toArray⟩ : ByteArray) = U at *
    go_enter Tryz.func96, Tryz.ntmps96
    go_wp2_with fail
    refine HG.out.mono ?_
    rintro en w' ⟨v, rfl, ⟨aa, ac, ea, ec, rfl, ha, he⟩, hb⟩
    go_upto_region 2 with (fail)
    obtain ⟨W, hW, hbW, hzW, d0, d1, d2, d3, d4, d5, d6⟩ := ebox w' (getE t P) (.slice aa (getE t P).attrs.length ac) (.slice ea (getE t P).exts.length ec)
    rw [hW]
    go_wp2_with fail
    go_ret
    exact ⟨rfl, hb.trans (hbW.mono hb.size)⟩
  · rw [decide_eq_false hn] at hp
    cases hg : Top.get t P with
    | none =>
      have he : dirErr t P = 9 := by unfold dirErr; rw [if_neg hn, hg]
      rw [he]
      have HGG : Hid (Top.get t P = none) := hg
      have hgs : (Top.get t P).isSome = false := by rw [hg]; rfl
      rw [hgs] at HG
      clear he ht hn hg hgs
      generalize (⟨P.toArray⟩ : ByteArray) = U at *
      go_enter Tryz.func96, Tryz.ntmps96
      go_wp2_with fail
      refine HG.out.mono ?_
      rintro en w' ⟨v, rfl, ⟨aa, ac, ea, ec, rfl, ha, he⟩, hb⟩
      go_upto_region 2 with (fail)
      obtain ⟨W, hW, hbW, hzW, d0, d1, d2, d3, d4, d5, d6⟩ := ebox w' (getE t P) (.slice aa (getE t P).attrs.length ac) (.slice ea (getE t P).exts.length ec)
      rw [hW]
      go_wp2_with fail
      go_ret
      exact ⟨rfl, hb.trans (hbW.mono hb.size)⟩
    | some x =>
      have he : dirErr t P = if x.kind = 2 then 0 else 10 := by unfold dirErr; rw [if_neg hn, hg]
      have hgs : (Top.get t P).isSome = true := by rw [hg]; rfl
      have hge : getE t P = x := by unfold getE; rw [hg]; rfl
      rw [hgs, hge] at HG
      rw [he]
      clear he ht hn hg hgs hge
      generalize (⟨P.toArray⟩ : ByteArray) = U at *
      by_cases h2 : x.kind = 2
      · rw [if_pos h2]
        go_enter Tryz.func96, Tryz.ntmps96
        go_wp2_with fail
        refine HG.out.mono ?_
        rintro en w' ⟨v, rfl, ⟨aa, ac, ea, ec, rfl, ha, he⟩, hb⟩
        go_upto_region 2 with (fail)
        obtain ⟨W, hW, hbW, hzW, d0, d1, d2, d3, d4, d5, d6⟩ := ebox w' x (.slice aa x.attrs.length ac) (.slice ea x.exts.length ec)
        rw [h2] at d0 hW
        rw [hW]
        clear h2 hW
        go_wp2_with fail
        go_ret
        exact ⟨rfl, hb.trans (hbW.mono hb.size)⟩
      · rw [if_neg h2]
        have e2 : (x.kind != 2) = true := bne_iff_ne.2 h2
        go_enter Tryz.func96, Tryz.ntmps96
        go_wp2_with fail
        refine HG.out.mono ?_
        rintro en w' ⟨v, rfl, ⟨aa, ac, ea, ec, rfl, ha, he⟩, hb⟩
        go_upto_region 2 with (fail)
        obtain ⟨W, hW, hbW, hzW, d0, d1, d2, d3, d4, d5, d6⟩ := ebox w' x (.slice aa x.attrs.length ac) (.slice ea x.exts.length ec)
        rw [hW]
        go_wp2_with fail
        go_ret
        exact ⟨rfl, hb.trans (hbW.mono hb.size)⟩
end Go.Proofs.YtbhmdcdhklgomaaGreatDoor
