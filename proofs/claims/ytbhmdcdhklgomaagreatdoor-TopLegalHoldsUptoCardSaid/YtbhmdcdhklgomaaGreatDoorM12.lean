/-
  The walks of Under and Compare of paths.
-/
import Derived.Test.YtbhmdcdhklgomaaGreatDoorM11
import Derived.Test.YtbhmdcdhklgomaaGreatDoorM07
import Derived.Test.YtbhmdcdhklgomaaGreatDoorM08
namespace Go.Proofs.YtbhmdcdhklgomaaGreatDoor
open Go.RowKit

theorem prefix_beq (m l : List (List UInt8)) : m.isPrefixOf l = (decide (m.length ≤ l.length) && (l.take m.length == m)) := by
  rw [Bool.eq_iff_iff, Bool.and_eq_true, decide_eq_true_eq, beq_iff_eq, List.isPrefixOf_iff_prefix]
  constructor
  · rintro ⟨t, rfl⟩
    simp
  · rintro ⟨_, h⟩
    exact ⟨l.drop m.length, (congrArg (· ++ l.drop m.length) h.symm).trans (List.take_append_drop _ _)⟩

set_option maxHeartbeats 2000000 in
theorem under_any (a d : ByteArray) (w : World) (ha : a.size < 4294967281) (hd : d.size < 4294967281) :
    Calls Tryz.prog 33 #[.string a, .string d] w fun e w' => e = .returned (.bool (Path.under a.data.toList d.data.toList)) ∧ Below w.heap.size w w' := by
  have hsa := fun w => psplit_any a w ha
  have hsd := fun w => psplit_any d w hd
  have hza := Path.comps_le a
  have hzd := Path.comps_le d
  have hU : Path.under a.data.toList d.data.toList = (decide (Path.err a.data.toList = 0) && decide (Path.err d.data.toList = 0) && (decide ((Path.comps d.data.toList).length ≤ (Path.comps a.data.toList).length) && ((Path.comps a.data.toList).take (Path.comps d.data.toList).length == Path.comps d.data.toList))) := by
    unfold Path.under
    rw [← prefix_beq]
    by_cases h1 : Path.err a.data.toList = 0
    · by_cases h2 : Path.err d.data.toList = 0
      · rw [Path.comps, if_pos h2, Path.comps, if_pos h1]
      · simp [h2]
    · simp [h1]
  rw [hU]
  clear hU
  generalize Path.err a.data.toList = Ea at *
  generalize Path.err d.data.toList = Ed at *
  generalize Path.comps a.data.toList = xs at *
  generalize Path.comps d.data.toList = ys at *
  by_cases h1 : Ea = 0
  rotate_left
  · have hne : (Ea == 0) = false := beq_eq_false_iff_ne.2 h1
    rw [decide_eq_false h1]
    clear h1
    go_enter Tryz.func33, Tryz.ntmps33
    go_wp2_with fail
    refine (hsa _).mono ?_
    rintro e w' ⟨v, rfl, ho, hb⟩
    go_wp2_with fail
    refine (hsd _).mono ?_
    rintro e w2 ⟨v2, rfl, ho2, hb2⟩
    go_wp2_with fail
    go_ret
    exact ⟨rfl, bchain hb hb2⟩
  subst h1
  by_cases h2 : Ed = 0
  rotate_left
  · have hne : (Ed == 0) = false := beq_eq_false_iff_ne.2 h2
    rw [decide_eq_false h2]
    clear h2
    go_enter Tryz.func33, Tryz.ntmps33
    go_wp2_with fail
    refine (hsa _).mono ?_
    rintro e w' ⟨v, rfl, ho, hb⟩
    go_wp2_with fail
    refine (hsd _).mono ?_
    rintro e w2 ⟨v2, rfl, ho2, hb2⟩
    go_wp2_with fail
    go_ret
    exact ⟨rfl, bchain hb hb2⟩
  subst h2
  by_cases h3 : ys.length ≤ xs.length
  rotate_left
  · rw [decide_eq_false h3]
    have h4 : (xs.length : Int) < ys.length := by omega
    go_enter Tryz.func33, Tryz.ntmps33
    go_wp2_with fail
    refine (hsa _).mono ?_
    rintro e w' ⟨v, rfl, ho, hb⟩
    obtain ⟨ao, cap, rfl, _⟩ := ho.form
    rw [strsL_length] at ho ⊢
    go_wp2_with fail
    refine (hsd _).mono ?_
    rintro e w2 ⟨v2, rfl, ho2, hb2⟩
    obtain ⟨ao2, cap2, rfl, _⟩ := ho2.form
    rw [strsL_length] at ho2 ⊢
    go_wp2_with fail
    go_ret
    exact ⟨rfl, bchain hb hb2⟩
  rw [decide_eq_true h3]
  have h4 : (ys.length : Int) ≤ xs.length := by omega
  obtain ⟨r, hr⟩ : ∃ r, (xs.take ys.length == ys) = r := ⟨_, rfl⟩
  have HR := Lib.hid hr
  have hr2 : (decide (0 = (0 : Int)) && decide (0 = (0 : Int)) && (true && (xs.take ys.length == ys))) = r := by rw [hr]; rfl
  rw [hr2]
  clear hr hr2
  go_enter Tryz.func33, Tryz.ntmps33
  go_wp2_with fail
  refine (hsa _).mono ?_
  rintro e w' ⟨v, rfl, ho, hb⟩
  obtain ⟨ao, cap, rfl, hao⟩ := ho.form
  rw [strsL_length] at ho hao ⊢
  have hcap := ho.cap
  go_wp2_with fail
  refine (hsd _).mono ?_
  rintro e w2 ⟨v2, rfl, ho2, hb2⟩
  obtain ⟨ao2, cap2, rfl, _⟩ := ho2.form
  rw [strsL_length] at ho2 ⊢
  have hread := (ho.below hb2 (Nat.le_refl _)).read.take ys.length h3
  have heq := equal_any ao ao2 ys.length cap ys.length cap2 (xs.take ys.length) ys w2 hread ho2.read (by omega) (by omega)
  rw [HR.out] at heq
  by_cases h0 : 0 < xs.length
  · obtain ⟨g, rfl⟩ := hao h0
    go_wp2_with fail
    refine heq.mono ?_
    rintro e w3 ⟨rfl, q, rfl⟩
    go_wp2_with fail
    go_ret
    exact ⟨rfl, bdrew (bchain hb hb2) q⟩
  · obtain rfl : xs = [] := List.eq_nil_of_length_eq_zero (by omega)
    obtain rfl : ys = [] := List.eq_nil_of_length_eq_zero (by simp at h3; exact List.length_eq_zero_iff.2 h3)
    rcases ho.2 with ⟨e, _⟩ | ⟨g, cap', cur, e, _⟩
    all_goals
      injection e with e1 e2 e3
      subst e1
      try subst e3
      go_wp2_with fail
      refine heq.mono ?_
      rintro e w3 ⟨rfl, q, rfl⟩
      go_wp2_with fail
      go_ret
      exact ⟨rfl, bdrew (bchain hb hb2) q⟩

theorem isNaN_any (s : ByteArray) (w : World) :
    Calls Tryz.prog 154 #[.string s] w fun e w' => e = .returned (.bool false) ∧ w' = w := by
  have h : (s.toList == s.toList) = true := beq_self_eq_true _
  go_enter Tryz.func154, Tryz.ntmps154
  go_wp2_with fail
  go_ret
  exact ⟨by simp, rfl⟩

theorem cmpE_walk (x y : List UInt8) : Path.cmpE x y = if Op.bytesLess x y then -1 else if x == y then 0 else 1 := by
  unfold Path.cmpE
  cases h1 : Op.bytesLess x y
  · cases h2 : x == y
    · cases h3 : Op.bytesLess y x
      · rw [Path.less_tri x y h1 h3, beq_self_eq_true] at h2
        cases h2
      · rfl
    · rw [beq_iff_eq.1 h2, Path.less_irrefl]
      rfl
  · rfl
set_option maxHeartbeats 1000000 in
theorem cmpS_any (x y : ByteArray) (w : World) :
    Calls Tryz.prog 127 #[.string x, .string y] w fun e w' => e = .returned (.int .i64 (Path.cmpE x.data.toList y.data.toList)) ∧ w' = w := by
  have hx := fun w => isNaN_any x w
  have hy := fun w => isNaN_any y w
  have HC := Lib.hid (cmpE_walk x.data.toList y.data.toList)
  generalize Path.cmpE x.data.toList y.data.toList = C at HC ⊢
  rw [← Lib.toList_data x, ← Lib.toList_data y] at HC
  cases h1 : Op.bytesLess x.toList y.toList
  · cases h2 : x.toList == y.toList
    all_goals
      rw [h1, h2] at HC
      go_enter Tryz.func127, Tryz.ntmps127
      go_wp2_with fail
      refine (hx _).mono ?_
      rintro e w' ⟨rfl, rfl⟩
      go_wp2_with fail
      refine (hy _).mono ?_
      rintro e w' ⟨rfl, rfl⟩
      go_wp2_with fail
      go_ret
      exact ⟨ret_int (HC.out).symm, rfl⟩
  · rw [h1] at HC
    go_enter Tryz.func127, Tryz.ntmps127
    go_wp2_with fail
    refine (hx _).mono ?_
    rintro e w' ⟨rfl, rfl⟩
    go_wp2_with fail
    refine (hy _).mono ?_
    rintro e w' ⟨rfl, rfl⟩
    go_wp2_with fail
    go_ret
    exact ⟨ret_int (HC.out).symm, rfl⟩

theorem drop_eq {α : Type} {xs : List α} {k : Nat} {x : α} (h : xs[k]? = some x) : xs.drop k = x :: xs.drop (k + 1) := by
  obtain ⟨h1, h2⟩ := List.getElem?_eq_some_iff.1 h
  rw [List.drop_eq_getElem_cons h1, h2]
set_option maxHeartbeats 1000000 in
theorem compareFunc_any (a1 a2 : Option Addr) (n1 c1 n2 c2 : Nat) (xs ys : List (List UInt8)) (w : World) (h1 : Strs w a1 n1 xs) (h2 : Strs w a2 n2 ys) (hn : n1 ≤ 9223372036854775807) (hn2 : n2 ≤ 9223372036854775807) :
    Calls Tryz.prog 126 #[.slice a1 n1 c1, .slice a2 n2 c2, .func (.func 127) #[] #[]] w fun e w' => e = .returned (.int .i64 (Path.cmpL xs ys)) ∧ w = w' := by
  obtain ⟨rfl, h1⟩ := h1
  obtain ⟨rfl, h2⟩ := h2
  have H1 := Lib.hid h1
  have H2 := Lib.hid h2
  clear h1 h2
  obtain ⟨C, hC⟩ : ∃ C, Path.cmpL xs ys = C := ⟨_, rfl⟩
  have HC := Lib.hid hC
  rw [hC]
  clear hC
  go_enter Tryz.func126, Tryz.ntmps126
  go_wp2_with fail
  go_loop [13] (fun i => ∃ k : Nat, k ≤ xs.length ∧ k ≤ ys.length ∧ i = .int .i64 k ∧ Hid (Path.cmpL (xs.drop k) (ys.drop k) = C)) (fun i => xs.length - (intOf i).toNat)
  case atStart => exact ⟨0, Nat.zero_le _, Nat.zero_le _, rfl, HC⟩
  case round =>
    obtain ⟨k, hk, hk2, rfl, hok⟩ := hrel
    by_cases hlt : k < xs.length
    · obtain ⟨x, hx⟩ : ∃ x, xs[k]? = some x := ⟨_, List.getElem?_eq_getElem hlt⟩
      obtain ⟨b1, o1, rfl, hc1⟩ := H1.out k x hx
      have HX := Lib.hid (drop_eq hx)
      clear hx
      by_cases hlt2 : k < ys.length
      · obtain ⟨y, hy⟩ : ∃ y, ys[k]? = some y := ⟨_, List.getElem?_eq_getElem hlt2⟩
        obtain ⟨b2, o2, rfl, hc2⟩ := H2.out k y hy
        have HY := Lib.hid (drop_eq hy)
        clear hy
        have hc := fun w => cmpS_any ⟨x.toArray⟩ ⟨y.toArray⟩ w
        have e1 : Path.cmpE (⟨x.toArray⟩ : ByteArray).data.toList (⟨y.toArray⟩ : ByteArray).data.toList = Path.cmpE x y := rfl
        rw [e1] at hc
        clear e1
        have hok2 := hok.out
        rw [HX.out, HY.out, Path.cmpL] at hok2
        generalize Path.cmpE x y = E at hc hok2
        by_cases hE : E = 0
        · rw [if_pos hE] at hok2
          have HK := Lib.hid hok2
          subst hE
          clear hok2
          go_wp2_with fail
          refine (hc _).mono ?_
          rintro e w' ⟨rfl, rfl⟩
          go_wp2_with fail
          go_round
          case rel => exact ⟨k + 1, by omega, by omega, by go_num, HK⟩
          case measure => simp [intOf]; omega
        · rw [if_neg hE] at hok2
          have HK := Lib.hid hok2
          have hne : (E != 0) = true := bne_iff_ne.2 hE
          clear hok2 hE
          go_wp2_with fail
          refine (hc _).mono ?_
          rintro e w' ⟨rfl, rfl⟩
          go_wp2_with fail
          go_ret
          exact ⟨ret_int HK.out, rfl⟩
      · have hd : ys.drop k = [] := List.drop_eq_nil_of_le (by omega)
        have hok2 := hok.out
        rw [HX.out, hd, Path.cmpL] at hok2
        have HK := Lib.hid hok2
        clear hok2 hd
        go_wp2_with fail
        go_ret
        exact ⟨ret_int HK.out, rfl⟩
    · have hd : xs.drop k = [] := List.drop_eq_nil_of_le (by omega)
      obtain rfl : k = xs.length := by omega
      have hok2 := hok.out
      rw [hd] at hok2
      by_cases hlt2 : xs.length < ys.length
      · obtain ⟨y, hy⟩ : ∃ y, ys[xs.length]? = some y := ⟨_, List.getElem?_eq_getElem hlt2⟩
        rw [drop_eq hy, Path.cmpL] at hok2
        have HK := Lib.hid hok2
        clear hok2 hd hy
        go_wp2_with fail
        go_ret
        exact ⟨ret_int HK.out, rfl⟩
      · have hd2 : ys.drop xs.length = [] := List.drop_eq_nil_of_le (by omega)
        rw [hd2, Path.cmpL] at hok2
        have HK := Lib.hid hok2
        clear hok2 hd hd2
        go_wp2_with fail
        go_ret
        exact ⟨ret_int HK.out, rfl⟩

set_option maxHeartbeats 1000000 in
theorem pcompare_any (a b : ByteArray) (w : World) (ha : a.size < 4294967281) (hb : b.size < 4294967281) :
    Calls Tryz.prog 99 #[.string a, .string b] w fun e w' => e = .returned (.int .i64 (Path.cmp a.data.toList b.data.toList)) ∧ Below w.heap.size w w' := by
  have hea := fun w => elements_any a w ha
  have heb := fun w => elements_any b w hb
  have hza := els_size a
  have hzb := els_size b
  obtain ⟨C, hC⟩ : ∃ C, Path.cmp a.data.toList b.data.toList = C := ⟨_, rfl⟩
  have hC2 : Path.cmpL (Path.els a.data.toList) (Path.els b.data.toList) = C := hC
  have HC := Lib.hid hC2
  rw [hC]
  clear hC hC2
  generalize Path.els a.data.toList = xs at *
  generalize Path.els b.data.toList = ys at *
  go_enter Tryz.func99, Tryz.ntmps99
  go_wp2_with fail
  refine (hea _).mono ?_
  rintro e w' ⟨v, rfl, ho, hb1⟩
  obtain ⟨ao, cap, rfl, _⟩ := ho.form
  rw [strsL_length] at ho ⊢
  go_wp2_with fail
  refine (heb _).mono ?_
  rintro e w2 ⟨v2, rfl, ho2, hb2⟩
  obtain ⟨ao2, cap2, rfl, _⟩ := ho2.form
  rw [strsL_length] at ho2 ⊢
  have hcf := compareFunc_any ao ao2 xs.length cap ys.length cap2 xs ys w2 (ho.below hb2 (Nat.le_refl _)).read ho2.read (by omega) (by omega)
  rw [HC.out] at hcf
  go_wp2_with fail
  refine hcf.mono ?_
  rintro e w3 ⟨rfl, rfl⟩
  go_wp2_with fail
  go_ret
  exact ⟨rfl, bchain hb1 hb2⟩
end Go.Proofs.YtbhmdcdhklgomaaGreatDoor

/-
  retention: Active, Held; slices.IndexFunc and ContainsFunc of holds at whatever closure.
-/
namespace Go.Proofs.YtbhmdcdhklgomaaGreatDoor
open Go.RowKit Top

def idxO (o : Option Nat) : Int := match o with
  | some i => i
  | none => -1
theorem idxf_at {α : Type} {p : α → Bool} {l : List α} {k : Nat} {x : α} (h : ∀ y ∈ l.take k, p y = false) (hx : l[k]? = some x) (hp : p x = true) : l.findIdx? p = some k := by
  rw [List.findIdx?_eq_some_iff_getElem]
  obtain ⟨hl, he⟩ := List.getElem?_eq_some_iff.1 hx
  refine ⟨hl, by rw [he]; exact hp, fun j hj => ?_⟩
  have := h l[j] (List.mem_iff_getElem?.2 ⟨j, by rw [List.getElem?_take, if_pos hj, List.getElem?_eq_getElem]⟩)
  simpa using this
theorem idxf_no {α : Type} {p : α → Bool} {l : List α} (h : ∀ y ∈ l, p y = false) : l.findIdx? p = none := by
  rw [List.findIdx?_eq_none_iff]
  exact h
theorem take_allf {α : Type} {P : α → Prop} {l : List α} {k : Nat} {x : α} (h : ∀ y ∈ l.take k, P y) (hx : l[k]? = some x) (hp : P x) : ∀ y ∈ l.take (k + 1), P y := by
  rw [List.take_add_one, hx]
  intro y hy
  rcases List.mem_append.1 hy with h1 | h1
  · exact h y h1
  · rw [Option.toList_some, List.mem_singleton] at h1
    rw [h1]
    exact hp
set_option maxHeartbeats 2000000 in
set_option maxRecDepth 100000 in
theorem idxHold_any (F : FuncId) (hE : Enters Tryz.prog F) (cap : Value) (p : Hold → Bool) (hv : Value) (l : List Hold) (w : World) (hl : Holds w hv l)
    (hF : ∀ W h, h ∈ l → Below w.heap.size w W → Calls Tryz.prog F #[.agg #[.string ⟨h.path.toArray⟩, .int .i64 h.till], cap] W fun e w' => e = .returned (.bool (p h)) ∧ Below W.heap.size W w') :
    Calls Tryz.prog 68 #[hv, .func (.func F) #[] #[cap]] w fun e w' => e = .returned (.int .i64 (idxO (l.findIdx? p))) ∧ Below w.heap.size w w' := by
  obtain ⟨ao, hc, rfl, hlc, hcm⟩ := hl.form
  have HL := Lib.hid hl
  have HF := Lib.hid hF
  have hEn : ∀ (args : Array Value) (w : World), (callFunc F args).run Tryz.prog w = .ok (.enter F args) w := hE
  clear hl hF hE
  go_enter Tryz.func68, Tryz.ntmps68
  go_wp2_with fail
  go_loopw [8] (fun i wr => ∃ k : Nat, k ≤ l.length ∧ i = .int .i64 k ∧ Hid (∀ y ∈ l.take k, p y = false) ∧ Below w.heap.size w wr) (fun i _ => l.length - (intOf i).toNat)
  case atStart => exact ⟨0, Nat.zero_le _, rfl, fun y hy => by simp at hy, Below.refl _ _⟩
  case round =>
    obtain ⟨k, hk, rfl, hok, hb⟩ := hrel
    by_cases hlt : k < l.length
    · obtain ⟨x, hx⟩ : ∃ x, l[k]? = some x := ⟨_, List.getElem?_eq_getElem (by omega)⟩
      obtain ⟨bk, o, rfl, hcell⟩ := (HL.out.below hb).get hx
      have c0 := hcell 0 _ rfl
      have c1 := hcell 1 _ rfl
      rw [Nat.add_zero] at c0
      have HC := Lib.hid (HF.out wr x (List.mem_of_getElem? hx) hb)
      have HX := Lib.hid hx
      clear hcell hx
      go_wp2_with fail
      refine HC.out.mono ?_
      rintro e w' ⟨rfl, hb2⟩
      obtain ⟨b, hbp⟩ : ∃ b, p x = b := ⟨_, rfl⟩
      have HB := Lib.hid hbp
      rw [hbp]
      clear hbp
      cases b
      · go_wp2_with fail
        go_roundw
        case rel => exact ⟨k + 1, by omega, by go_num, take_allf hok.out HX.out HB.out, hb.trans (hb2.mono hb.size)⟩
        case measure => simp [intOf]; omega
      · go_wp2_with fail
        go_ret
        refine ⟨?_, hb.trans (hb2.mono hb.size)⟩
        rw [idxf_at hok.out HX.out HB.out]
        rfl
    · obtain rfl : k = l.length := by omega
      have h := hok.out
      rw [List.take_length] at h
      have H := Lib.hid h
      clear h
      go_wp2_with fail
      go_ret
      exact ⟨by rw [idxf_no H.out]; rfl, hb⟩
theorem idxO_any {α : Type} (p : α → Bool) (l : List α) : decide (0 ≤ idxO (l.findIdx? p)) = l.any p := by
  cases h : l.findIdx? p with
  | none =>
    rw [List.findIdx?_eq_none_iff] at h
    have : l.any p = false := by rw [List.any_eq_false]; intro x hx; rw [h x hx]; decide
    rw [this]
    rfl
  | some i =>
    rw [List.findIdx?_eq_some_iff_getElem] at h
    obtain ⟨hl, hp, _⟩ := h
    have : l.any p = true := List.any_eq_true.2 ⟨_, List.getElem_mem hl, hp⟩
    rw [this]
    simp [idxO]
set_option maxHeartbeats 2000000 in
set_option maxRecDepth 100000 in
theorem hasHold_any (F : FuncId) (hE : Enters Tryz.prog F) (cap : Value) (p : Hold → Bool) (hv : Value) (l : List Hold) (w : World) (hl : Holds w hv l)
    (hF : ∀ W h, h ∈ l → Below w.heap.size w W → Calls Tryz.prog F #[.agg #[.string ⟨h.path.toArray⟩, .int .i64 h.till], cap] W fun e w' => e = .returned (.bool (p h)) ∧ Below W.heap.size W w') :
    Calls Tryz.prog 30 #[hv, .func (.func F) #[] #[cap]] w fun e w' => e = .returned (.bool (l.any p)) ∧ Below w.heap.size w w' := by
  have HI := Lib.hid (idxHold_any F hE cap p hv l w hl hF)
  have HA := Lib.hid (idxO_any p l)
  clear hl hF hE
  generalize idxO (l.findIdx? p) = z at *
  go_enter Tryz.func30, Tryz.ntmps30
  go_wp2_with fail
  refine HI.out.mono ?_
  rintro e w' ⟨rfl, hb⟩
  go_wp2_with fail
  go_ret
  rw [← HA.out]
  exact ⟨rfl, hb⟩
set_option maxHeartbeats 1000000 in
theorem activec_any (h : Hold) (d : Int) (db : Nat) (w : World) (hd : w.cell? ⟨db, 0, none⟩ = some (.int .i64 d)) :
    Calls Tryz.prog 70 #[.agg #[.string ⟨h.path.toArray⟩, .int .i64 h.till], .pointer (some ⟨db, 0, none⟩)] w fun e w' => e = .returned (.bool (decide (d ≤ h.till))) ∧ Below w.heap.size w w' := by
  obtain ⟨W, hW, hbW, hzW, d0, d1⟩ := hbox w h
  have hd := (hbW.cell (p := ⟨db, 0, none⟩) (World.block_lt_of_cell? _ _ hd)).trans hd
  go_enter Tryz.func70, Tryz.ntmps70
  go_wp2_with fail
  go_ret
  exact ⟨rfl, hbW⟩
set_option maxHeartbeats 1000000 in
theorem active_any (hv : Value) (l : List Hold) (d : Int) (w : World) (hl : Holds w hv l) (hn : l.length ≤ 16777216) :
    Calls Tryz.prog 31 #[hv, .int .i64 d] w fun e w' => ∃ v, e = .returned v ∧ OwnH w' w.heap.size v (active l d) ∧ Below w.heap.size w w' := by
  have hA := heap_alloc_new w (.cells #[.int .i64 d] 3)
  have hc := tcell hA 0 _ rfl
  have hbA := (Below.refl _ w).alloc (Nat.le_refl _) (.cells #[.int .i64 d] 3)
  have HS := Lib.hid (selected_any 70 (enters_of Tryz.func70 (by kernel_rfl) rfl) (.pointer (some ⟨w.heap.size, 0, none⟩)) (fun h => decide (d ≤ h.till)) hv l _ (hl.below hbA) hn (fun W h hW => activec_any h d w.heap.size W ((hW.cell (p := ⟨w.heap.size, 0, none⟩) (by simp)).trans hc)))
  have HBA := Lib.hid hbA
  clear hl hA hc hbA
  go_enter Tryz.func31, Tryz.ntmps31
  go_wp2_with fail
  refine HS.out.mono ?_
  rintro e w' ⟨v, rfl, ho, hb⟩
  go_wp2_with fail
  go_ret
  exact ⟨_, rfl, ho.mono' HBA.out.size, HBA.out.trans (hb.mono HBA.out.size)⟩
end Go.Proofs.YtbhmdcdhklgomaaGreatDoor

/-
  slices.IndexFunc of entries at whatever closure; rows of entries of the call's own.
-/
namespace Go.Proofs.YtbhmdcdhklgomaaGreatDoor
open Go.RowKit Top

/-- A row of entries of the call's own, whose parts read as they do in the world R. -/
def OwnEnts (R w : World) (B : Nat) (v : Value) (l : List Ent) : Prop := ∃ vss, w.ownsRow B 43 7 v l.length vss.flatten ∧ All2 (EntC R) vss l
theorem entC_len {R : World} {vs : List Value} {e : Ent} (h : EntC R vs e) : vs.length = 7 := by
  obtain ⟨aa, ac, ea, ec, rfl, _⟩ := h
  rfl
theorem entC_one {R : World} {vs : List Value} {e : Ent} (h : EntC R vs e) : ∀ u ∈ vs, u.oneCell' = true := by
  obtain ⟨aa, ac, ea, ec, rfl, _⟩ := h
  intro u hu
  simp only [entL, List.mem_cons, List.not_mem_nil, or_false] at hu
  rcases hu with rfl | rfl | rfl | rfl | rfl | rfl | rfl <;> rfl
theorem all2_mem {α β : Type} {R : α → β → Prop} {xs : List α} {ys : List β} (h : All2 R xs ys) {x : α} (hx : x ∈ xs) : ∃ y ∈ ys, R x y := by
  obtain ⟨j, hj⟩ := List.mem_iff_getElem?.1 hx
  have hjl := (List.getElem?_eq_some_iff.1 hj).1
  have hl := h.1
  obtain ⟨y, hy⟩ : ∃ y, ys[j]? = some y := ⟨_, List.getElem?_eq_getElem (by omega)⟩
  exact ⟨y, List.mem_of_getElem? hy, h.2 j x y hj hy⟩
theorem all2_lens {R : World} {vss : List (List Value)} {l : List Ent} (h : All2 (EntC R) vss l) : ∀ x ∈ vss, x.length = 7 := fun x hx => by
  obtain ⟨y, _, hy⟩ := all2_mem h hx
  exact entC_len hy
theorem all2_ones {R : World} {vss : List (List Value)} {l : List Ent} (h : All2 (EntC R) vss l) : ∀ x ∈ vss, ∀ u ∈ x, u.oneCell' = true := fun x hx => by
  obtain ⟨y, _, hy⟩ := all2_mem h hx
  exact entC_one hy
theorem OwnEnts.read {R w : World} {B : Nat} {v : Value} {l : List Ent} (h : OwnEnts R w B v l) (hb : Below R.heap.size R w) : Ents w v l := by
  obtain ⟨vss, h1, h2⟩ := h
  obtain ⟨ao, cap, rfl, h3, h4⟩ : ∃ ao cap, v = .slice ao l.length cap ∧ l.length ≤ cap ∧ cap ≤ 9223372036854775807 := by
    rcases h1.2 with ⟨rfl, hn⟩ | ⟨g, cap, cur, rfl, _, _, h3, h4, _⟩
    · exact ⟨none, 0, by rw [hn], by omega, by omega⟩
    · exact ⟨_, cap, rfl, h3, by unfold maxLen at h4; omega⟩
  refine ⟨ao, cap, vss, rfl, h3, h4, Raw.of_own (E := 43) (B := B) (n := l.length) (cap := cap) (by rw [h2.1]; exact h1) (all2_lens h2), h2.1, fun j x y hx hy => (h2.2 j x y hx hy).below hb⟩
/-- slices.Clone of entries. -/
theorem cloneEnts_any (tv : Value) (t : List Ent) (w : World) (ht : Ents w tv t) (hn : t.length ≤ 65536) :
    Calls Tryz.prog 62 #[tv] w fun en w' => ∃ v, en = .returned v ∧ OwnEnts w w' w.heap.size v t ∧ Below w.heap.size w w' := by
  obtain ⟨ao, cap, vss, rfl, h2, h3, h4, h5⟩ := ht
  refine (clone_ent ao t.length cap vss w h4 h5.1.symm (all2_ones h5) hn).mono ?_
  rintro en w' ⟨v, rfl, ho, hb⟩
  exact ⟨v, rfl, ⟨vss, ho, h5⟩, hb⟩

set_option maxHeartbeats 2000000 in
set_option maxRecDepth 100000 in
theorem idxEntF_any (F : FuncId) (hE : Enters Tryz.prog F) (cap : Value) (p : Ent → Bool) (tv : Value) (t : List Ent) (w : World) (ht : Ents w tv t)
    (hF : ∀ W v x, x ∈ t → Below w.heap.size w W → EntV W v x → Calls Tryz.prog F #[v, cap] W fun e w' => e = .returned (.bool (p x)) ∧ Below W.heap.size W w') :
    Calls Tryz.prog 73 #[tv, .func (.func F) #[] #[cap]] w fun en w' => en = .returned (.int .i64 (idxO (t.findIdx? p))) ∧ Below w.heap.size w w' := by
  obtain ⟨ao, cp, rfl, hlc, hcm⟩ := ht.form
  have HT := Lib.hid ht
  have HF := Lib.hid hF
  have hEn : ∀ (args : Array Value) (w : World), (callFunc F args).run Tryz.prog w = .ok (.enter F args) w := hE
  clear ht hF hE
  go_enter Tryz.func73, Tryz.ntmps73
  go_wp2_with fail
  go_loopw [8] (fun i wr => ∃ k : Nat, k ≤ t.length ∧ i = .int .i64 k ∧ Hid (∀ y ∈ t.take k, p y = false) ∧ Below w.heap.size w wr) (fun i _ => t.length - (intOf i).toNat)
  case atStart => exact ⟨0, Nat.zero_le _, rfl, fun y hy => by simp at hy, Below.refl _ _⟩
  case round =>
    obtain ⟨k, hk, rfl, hok, hb⟩ := hrel
    by_cases hlt : k < t.length
    · obtain ⟨x, hx⟩ : ∃ x, t[k]? = some x := ⟨_, List.getElem?_eq_getElem (by omega)⟩
      obtain ⟨bk, o, aa, ac, ea, ec, rfl, ha, he, c0, c1, c2, c3, c4, c5, c6⟩ := (HT.out.below hb).get hx
      have HC := Lib.hid (HF.out wr _ x (List.mem_of_getElem? hx) hb ⟨aa, ac, ea, ec, rfl, ha, he⟩)
      have HX := Lib.hid hx
      obtain ⟨b, hb1⟩ : ∃ b, p x = b := ⟨_, rfl⟩
      rw [hb1] at HC
      have HB := Lib.hid hb1
      clear hx hb1 ha he
      cases b
      · go_wp2_with fail
        refine HC.out.mono ?_
        rintro en w' ⟨rfl, hb2⟩
        go_wp2_with fail
        go_roundw
        case rel => exact ⟨k + 1, by omega, by go_num, take_allf hok.out HX.out HB.out, hb.trans (hb2.mono hb.size)⟩
        case measure => simp [intOf]; omega
      · go_wp2_with fail
        refine HC.out.mono ?_
        rintro en w' ⟨rfl, hb2⟩
        go_wp2_with fail
        go_ret
        refine ⟨?_, hb.trans (hb2.mono hb.size)⟩
        rw [idxf_at hok.out HX.out HB.out]
        rfl
    · obtain rfl : k = t.length := by omega
      have h := hok.out
      rw [List.take_length] at h
      have H := Lib.hid h
      clear h
      go_wp2_with fail
      go_ret
      exact ⟨by rw [idxf_no H.out]; rfl, hb⟩
end Go.Proofs.YtbhmdcdhklgomaaGreatDoor

/-
  slices.DeleteFunc of a row of entries of the call's own, at whatever closure.
-/
namespace Go.Proofs.YtbhmdcdhklgomaaGreatDoor
open Go.RowKit Top

theorem flatten_set7 : ∀ (vss : List (List Value)) (i : Nat) (a0 a1 a2 a3 a4 a5 a6 : Value), (∀ x ∈ vss, x.length = 7) → i < vss.length →
    (vss.set i [a0, a1, a2, a3, a4, a5, a6]).flatten = ((((((vss.flatten.set (i * 7) a0).set (i * 7 + 1) a1).set (i * 7 + 2) a2).set (i * 7 + 3) a3).set (i * 7 + 4) a4).set (i * 7 + 5) a5).set (i * 7 + 6) a6
  | [], i, _, _, _, _, _, _, _, _, h => by simp at h
  | x :: vss, 0, a0, a1, a2, a3, a4, a5, a6, hk, _ => by
    obtain ⟨b0, b1, b2, b3, b4, b5, b6, rfl⟩ : ∃ b0 b1 b2 b3 b4 b5 b6, x = [b0, b1, b2, b3, b4, b5, b6] := by
      have := hk x (List.mem_cons_self ..)
      match x, this with
      | [b0, b1, b2, b3, b4, b5, b6], _ => exact ⟨_, _, _, _, _, _, _, rfl⟩
    simp
  | x :: vss, i + 1, a0, a1, a2, a3, a4, a5, a6, hk, h => by
    have ih := flatten_set7 vss i a0 a1 a2 a3 a4 a5 a6 (fun y hy => hk y (List.mem_cons_of_mem _ hy)) (by simpa using h)
    obtain ⟨b0, b1, b2, b3, b4, b5, b6, rfl⟩ : ∃ b0 b1 b2 b3 b4 b5 b6, x = [b0, b1, b2, b3, b4, b5, b6] := by
      have := hk x (List.mem_cons_self ..)
      match x, this with
      | [b0, b1, b2, b3, b4, b5, b6], _ => exact ⟨_, _, _, _, _, _, _, rfl⟩
    rw [List.set_cons_succ, List.flatten_cons, List.flatten_cons, ih, show (i + 1) * 7 = i * 7 + 1 + 1 + 1 + 1 + 1 + 1 + 1 by omega]
    simp
theorem set7_own {w : World} {B g cap n i : Nat} {vss : List (List Value)} {a0 a1 a2 a3 a4 a5 a6 : Value} (h : w.ownsRow B 43 7 (.slice (some ⟨g, 0, none⟩) n cap) n vss.flatten) (hk : ∀ x ∈ vss, x.length = 7) (hi : i < vss.length) :
    (((((((w.setCell ⟨g, i * 7, none⟩ a0).setCell ⟨g, i * 7 + 1, none⟩ a1).setCell ⟨g, i * 7 + 2, none⟩ a2).setCell ⟨g, i * 7 + 3, none⟩ a3).setCell ⟨g, i * 7 + 4, none⟩ a4).setCell ⟨g, i * 7 + 5, none⟩ a5).setCell ⟨g, i * 7 + 6, none⟩ a6).ownsRow B 43 7 (.slice (some ⟨g, 0, none⟩) n cap) n (vss.set i [a0, a1, a2, a3, a4, a5, a6]).flatten := by
  rw [flatten_set7 vss i a0 a1 a2 a3 a4 a5 a6 hk hi]
  obtain ⟨s0, _⟩ := World.ownsRow.stored h (i * 7) a0
  obtain ⟨s1, _⟩ := World.ownsRow.stored s0 (i * 7 + 1) a1
  obtain ⟨s2, _⟩ := World.ownsRow.stored s1 (i * 7 + 2) a2
  obtain ⟨s3, _⟩ := World.ownsRow.stored s2 (i * 7 + 3) a3
  obtain ⟨s4, _⟩ := World.ownsRow.stored s3 (i * 7 + 4) a4
  obtain ⟨s5, _⟩ := World.ownsRow.stored s4 (i * 7 + 5) a5
  obtain ⟨s6, _⟩ := World.ownsRow.stored s5 (i * 7 + 6) a6
  exact s6
/-- The seven cells of one element of a row, and that they may be written. -/
theorem row_elem {w : World} {B g cap n i : Nat} {vss : List (List Value)} {a0 a1 a2 a3 a4 a5 a6 : Value} (h : w.ownsRow B 43 7 (.slice (some ⟨g, 0, none⟩) n cap) n vss.flatten) (hk : ∀ x ∈ vss, x.length = 7) (hi : vss[i]? = some [a0, a1, a2, a3, a4, a5, a6]) :
    w.cell? ⟨g, i * 7, none⟩ = some a0 ∧ w.cell? ⟨g, i * 7 + 1, none⟩ = some a1 ∧ w.cell? ⟨g, i * 7 + 2, none⟩ = some a2 ∧ w.cell? ⟨g, i * 7 + 3, none⟩ = some a3 ∧ w.cell? ⟨g, i * 7 + 4, none⟩ = some a4 ∧ w.cell? ⟨g, i * 7 + 5, none⟩ = some a5 ∧ w.cell? ⟨g, i * 7 + 6, none⟩ = some a6 := by
  have hc := World.ownsRow.cells h (g := g) rfl
  have key : ∀ m u, m < 7 → ([a0, a1, a2, a3, a4, a5, a6] : List Value)[m]? = some u → w.cell? ⟨g, i * 7 + m, none⟩ = some u := fun m u hm hu => by
    have := hc (i * 7 + m) u ((flatten_get 7 vss i m _ hk hi hm).trans hu)
    rwa [Addr.add_lit, Nat.zero_add] at this
  exact ⟨key 0 _ (by decide) rfl, key 1 _ (by decide) rfl, key 2 _ (by decide) rfl, key 3 _ (by decide) rfl, key 4 _ (by decide) rfl, key 5 _ (by decide) rfl, key 6 _ (by decide) rfl⟩
theorem row_free {w : World} {B g cap n : Nat} {E : TypeId} {k : Nat} {xs : List Value} (h : w.ownsRow B E k (.slice (some ⟨g, 0, none⟩) n cap) n xs) (i : Nat) : w.frozen? ⟨g, i, none⟩ = false := by
  rcases h.2 with ⟨e, _⟩ | ⟨g', cap', cur, e, _, hh, _⟩
  · cases e
  · injection e with e1
    injection e1 with e1
    injection e1 with e1
    subst e1
    simp [World.frozen?, hh]
theorem nat_cl {i n cap : Nat} (hi : i < n) (hc : n ≤ cap) : min (i * 7) (cap * 7) + (n - i) * 7 + (cap * 7 - (i * 7 + (n - i) * 7)) = cap * 7 := by omega
/-- clear of a row's end. -/
theorem clear_any {w : World} {B g cap n i c : Nat} {vss : List (List Value)} (h : w.ownsRow B 43 7 (.slice (some ⟨g, 0, none⟩) n cap) n vss.flatten) (hl : vss.length = n) (hk : ∀ x ∈ vss, x.length = 7) (hi : i < n) :
    ∃ W1, (∀ ty, (Builtin.clear_ #[32] ty #[.slice (some ⟨g, i * 7, none⟩) (n - i) c]).run Tryz.prog w = .ok (.tuple #[]) W1) ∧ W1.ownsRow B 43 7 (.slice (some ⟨g, 0, none⟩) i cap) i (vss.take i).flatten ∧ Below B w W1 := by
  rcases h.2 with ⟨e, _⟩ | ⟨g', cap', cur, e, hB, hh, hc, hcm, hcs, htk⟩
  · cases e
  injection e with e1 e2 e3
  injection e1 with e1
  injection e1 with e1
  subst e1 e3
  have hz : (zeroValue 43).run Tryz.prog w = .ok (.agg #[.int .i64 0, .string ByteArray.empty, .slice none 0 0, .string ByteArray.empty, .int .i64 0, .string ByteArray.empty, .slice none 0 0]) w := by kernel_rfl
  have hzl : (Builtin.zeroCells (Value.agg #[.int .i64 0, .string ByteArray.empty, .slice none 0 0, .string ByteArray.empty, .int .i64 0, .string ByteArray.empty, .slice none 0 0]).cells (n - i)).toList.length = (n - i) * 7 := by
    rw [Array.length_toList, size_zeroCells]
    rfl
  have hz1 : ∀ v ∈ (Builtin.zeroCells (Value.agg #[.int .i64 0, .string ByteArray.empty, .slice none 0 0, .string ByteArray.empty, .int .i64 0, .string ByteArray.empty, .slice none 0 0]).cells (n - i)).toList, v.oneCell' = true := by
    intro v hv
    unfold Builtin.zeroCells at hv
    rw [Array.toList_map] at hv
    obtain ⟨j, _, rfl⟩ := List.mem_map.1 hv
    show ((#[.int .i64 0, .string ByteArray.empty, .slice none 0 0, .string ByteArray.empty, .int .i64 0, .string ByteArray.empty, .slice none 0 0] : Array Value)[j % 7]!).oneCell' = true
    have hj : j % 7 = 0 ∨ j % 7 = 1 ∨ j % 7 = 2 ∨ j % 7 = 3 ∨ j % 7 = 4 ∨ j % 7 = 5 ∨ j % 7 = 6 := by omega
    rcases hj with e | e | e | e | e | e | e <;> rw [e] <;> rfl
  generalize hZ : Builtin.zeroCells (Value.agg #[.int .i64 0, .string ByteArray.empty, .slice none 0 0, .string ByteArray.empty, .int .i64 0, .string ByteArray.empty, .slice none 0 0]).cells (n - i) = Z at *
  have hcl : cur.toList.length = cap * 7 := by rw [Array.length_toList, hcs]
  have hst := run_storeCells_at Tryz.prog g (i * 7) 43 Z.toList 0 cur w hh (by rw [hzl, hcs]; omega) hz1
  simp only [Nat.add_zero] at hst
  have hrun : ∀ ty, (Builtin.clear_ #[32] ty #[.slice (some ⟨g, i * 7, none⟩) (n - i) c]).run Tryz.prog w = .ok (.tuple #[]) (w.setRow g (cur.toList.take (i * 7) ++ Z.toList ++ cur.toList.drop (i * 7 + Z.toList.length)).toArray) := fun ty => by
    obtain ⟨m, hm⟩ : ∃ m, n - i = m + 1 := ⟨n - i - 1, by omega⟩
    rw [hm] at hZ ⊢
    simp only [Array.length_toList] at hst ⊢
    simp [Builtin.clear_, run_underlying Tryz.underlying32, hz, hZ, hst]
  have hfl := flatten_len 7 vss hk
  refine ⟨_, hrun, ⟨?_, .inr ⟨g, cap, _, rfl, hB, setRow_heap _ _ _ _ _ _ hh, by omega, hcm, ?_, ?_⟩⟩, below_setRow (Below.refl B w) hB _⟩
  · rw [flatten_take 7 vss i hk, List.length_take, hfl]
    omega
  · rw [List.size_toArray, List.length_append, List.length_append, List.length_take, List.length_drop, hcl, hzl]
    exact nat_cl hi hc
  · rw [List.toList_toArray, List.append_assoc, List.take_append_of_le_length (by rw [List.length_take, hcl]; omega), List.take_take, Nat.min_self, flatten_take 7 vss i hk, ← htk, List.take_take, Nat.min_eq_left (show i * 7 ≤ n * 7 by omega)]
end Go.Proofs.YtbhmdcdhklgomaaGreatDoor
