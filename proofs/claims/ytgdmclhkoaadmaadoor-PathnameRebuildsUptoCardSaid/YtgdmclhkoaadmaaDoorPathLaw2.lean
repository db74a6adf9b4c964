/-
  The laws Under and Subtrees of paths, walked. Written by gen_path2.py.
-/
import Derived.Test.YtgdmclhkoaadmaaDoorPathLaw1
namespace Go.Proofs.YtgdmclhkoaadmaaDoor
open Go.RowKit

theorem under_self (a : List UInt8) : Path.under a a = decide (Path.err a = 0) := by
  rw [Bool.eq_iff_iff, Path.under_iff, decide_eq_true_eq]
  exact ⟨fun h => h.1, fun h => ⟨h, h, List.prefix_refl _⟩⟩
theorem under_root (a : List UInt8) : Path.under a [] = decide (Path.err a = 0) := by
  rw [Bool.eq_iff_iff, Path.under_iff, decide_eq_true_eq]
  exact ⟨fun h => h.1, fun h => ⟨h, Path.err_nil, List.nil_prefix⟩⟩
theorem root_under {a : List UInt8} (h : a ≠ []) : Path.under [] a = false := by
  rw [Bool.eq_false_iff, Ne, Path.under_iff]
  rintro ⟨_, _, h3⟩
  have : Path.els a = [] := List.prefix_nil.1 h3
  exact h ((Sep.els_eq_nil (q := 47)).1 this)
theorem under_anti {a b : List UInt8} (h1 : Path.under a b = true) (h2 : Path.under b a = true) : a = b := by
  obtain ⟨_, _, p1⟩ := Path.under_iff.1 h1
  obtain ⟨_, _, p2⟩ := Path.under_iff.1 h2
  exact (Sep.els_inj (q := 47) (List.IsPrefix.eq_of_length p2 (Nat.le_antisymm p2.length_le p1.length_le)))
theorem under_trans {a b c : List UInt8} (h1 : Path.under a b = true) (h2 : Path.under b c = true) : Path.under a c = true := by
  obtain ⟨e1, e2, p1⟩ := Path.under_iff.1 h1
  obtain ⟨_, e3, p2⟩ := Path.under_iff.1 h2
  exact Path.under_iff.2 ⟨e1, e3, p2.trans p1⟩
theorem under_cmp {a d : List UInt8} (h : Path.under a d = true) : Path.cmp d a ≤ 0 := Path.cmpL_prefix (Path.under_iff.1 h).2.2
theorem under_between {a b c d : List UInt8} (h1 : Path.under a d = true) (h2 : Path.under c d = true) (hab : Path.cmp a b ≤ 0) (hbc : Path.cmp b c ≤ 0) (hb : Path.err b = 0) : Path.under b d = true := by
  obtain ⟨_, e2, p1⟩ := Path.under_iff.1 h1
  obtain ⟨_, _, p2⟩ := Path.under_iff.1 h2
  exact Path.under_iff.2 ⟨hb, e2, Path.between p1 p2 hab hbc⟩

set_option maxHeartbeats 2000000 in
theorem law_under31 (a0 a1 a2 : ByteArray) (_w0 : a0.size ≤ 140737488351232) (_w1 : a1.size ≤ 140737488351232) (_w2 : a2.size ≤ 140737488351232) (w : World) :
    Calls Tryd.prog 9 #[.string a0, .string a1, .string a2] w fun e w' => e = .returned (.bool true) ∧ Below w.heap.size w w' := by
  by_cases h0 : 200 < (a0.size : Int)
  · go_enter Tryd.func9, Tryd.ntmps9
    go_wp2_with (go_at_call 11; refine (awake31_any _).mono ?_; rintro e w1 ⟨rfl, hb1⟩)
    go_ret
    exact ⟨rfl, hb1⟩
  by_cases h1 : 200 < (a1.size : Int)
  · go_enter Tryd.func9, Tryd.ntmps9
    go_wp2_with (go_at_call 11; refine (awake31_any _).mono ?_; rintro e w1 ⟨rfl, hb1⟩)
    go_ret
    exact ⟨rfl, hb1⟩
  by_cases h2 : 200 < (a2.size : Int)
  · go_enter Tryd.func9, Tryd.ntmps9
    go_wp2_with (go_at_call 11; refine (awake31_any _).mono ?_; rintro e w1 ⟨rfl, hb1⟩)
    go_ret
    exact ⟨rfl, hb1⟩
  have caw := fun w => awake31_any w
  have cck := fun w => pcheck_any a0 w (by omega)
  have caa := fun w => under_any a0 a0 w (by omega) (by omega)
  have car := fun w => under_any a0 ByteArray.empty w (by omega) (by decide)
  have cra := fun w => under_any ByteArray.empty a0 w (by decide) (by omega)
  have cab := fun w => under_any a0 a1 w (by omega) (by omega)
  have cba := fun w => under_any a1 a0 w (by omega) (by omega)
  have cbc := fun w => under_any a1 a2 w (by omega) (by omega)
  have cac := fun w => under_any a0 a2 w (by omega) (by omega)
  rw [under_self] at caa
  rw [show (ByteArray.empty).data.toList = [] from rfl, under_root] at car
  rw [show (ByteArray.empty).data.toList = [] from rfl] at cra
  have hE : (Path.err a0.data.toList == 0) = decide (Path.err a0.data.toList = 0) := by rw [Bool.eq_iff_iff, beq_iff_eq, decide_eq_true_eq]
  have hroot : Path.under [] a0.data.toList = a0.toList.isEmpty := by
    rw [isEmpty_iff]
    by_cases h : a0.data.toList = []
    · rw [h]; decide
    · rw [root_under h, decide_eq_false h]
  have hanti : Path.under a0.data.toList a1.data.toList = true → Path.under a1.data.toList a0.data.toList = true → a0 = a1 := fun h1 h2 => of_toList (under_anti h1 h2)
  have htrans := @under_trans a0.data.toList a1.data.toList a2.data.toList
  have hnil : a0.toList.isEmpty = decide (a0.toList = []) := by rw [isEmpty_iff, Lib.toList_data]
  rw [hroot] at cra
  rw [hnil] at cra
  clear hroot
  generalize Path.under a0.data.toList a1.data.toList = p at *
  generalize Path.under a1.data.toList a0.data.toList = q at *
  generalize Path.under a1.data.toList a2.data.toList = r at *
  generalize Path.under a0.data.toList a2.data.toList = s at *
  generalize Path.err a0.data.toList = E at *
  generalize hO : decide (E = 0) = o at *
  clear hO
  have HA := Lib.hid hanti
  have HT := Lib.hid htrans
  clear hanti htrans
  have hz : (decide (a0.toList = []) = true ∧ a0.toList.isEmpty = true ∧ a0.toList = []) ∨ (decide (a0.toList = []) = false ∧ a0.toList.isEmpty = false ∧ ¬ a0.toList = []) := by
    by_cases h : a0.toList = []
    · exact .inl ⟨decide_eq_true h, by rw [h]; rfl, h⟩
    · exact .inr ⟨decide_eq_false h, by rw [hnil, decide_eq_false h], h⟩
  clear hnil
  generalize hZ : decide (a0.toList = []) = z at *
  clear hZ
  cases p
  · clear HA HT
    rcases hz with ⟨rfl, hz, hz2⟩ | ⟨rfl, hz, hz2⟩
    all_goals
      go_enter Tryd.func9, Tryd.ntmps9
      go_wp2_with fail
      refine (cck _).mono ?_
      rintro e w1 ⟨rfl, hb1⟩
      have hc1 := hb1
      clear hb1
      go_wp2_with fail
      refine (caa _).mono ?_
      rintro e w2 ⟨rfl, hb2⟩
      have hc2 := bchain hc1 hb2
      clear hc1 hb2
      go_wp2_with fail
      refine (car _).mono ?_
      rintro e w3 ⟨rfl, hb3⟩
      have hc3 := bchain hc2 hb3
      clear hc2 hb3
      go_wp2_with fail
      refine (cra _).mono ?_
      rintro e w4 ⟨rfl, hb4⟩
      have hc4 := bchain hc3 hb4
      clear hc3 hb4
      go_wp2_with fail
      refine (cab _).mono ?_
      rintro e w5 ⟨rfl, hb5⟩
      have hc5 := bchain hc4 hb5
      clear hc4 hb5
      go_wp2_with fail
      refine (cab _).mono ?_
      rintro e w6 ⟨rfl, hb6⟩
      have hc6 := bchain hc5 hb6
      clear hc5 hb6
      go_wp2_with fail
      refine (caw _).mono ?_
      rintro e w7 ⟨rfl, hb7⟩
      have hc7 := bchain hc6 hb7
      clear hc6 hb7
      go_wp2_with fail
      go_ret
      exact ⟨rfl, hc7⟩
  · cases q
    · cases r
      · clear HA HT
        rcases hz with ⟨rfl, hz, hz2⟩ | ⟨rfl, hz, hz2⟩
        all_goals
        go_enter Tryd.func9, Tryd.ntmps9
        go_wp2_with fail
        refine (cck _).mono ?_
        rintro e w1 ⟨rfl, hb1⟩
        have hc1 := hb1
        clear hb1
        go_wp2_with fail
        refine (caa _).mono ?_
        rintro e w2 ⟨rfl, hb2⟩
        have hc2 := bchain hc1 hb2
        clear hc1 hb2
        go_wp2_with fail
        refine (car _).mono ?_
        rintro e w3 ⟨rfl, hb3⟩
        have hc3 := bchain hc2 hb3
        clear hc2 hb3
        go_wp2_with fail
        refine (cra _).mono ?_
        rintro e w4 ⟨rfl, hb4⟩
        have hc4 := bchain hc3 hb4
        clear hc3 hb4
        go_wp2_with fail
        refine (cab _).mono ?_
        rintro e w5 ⟨rfl, hb5⟩
        have hc5 := bchain hc4 hb5
        clear hc4 hb5
        go_wp2_with fail
        refine (cba _).mono ?_
        rintro e w6 ⟨rfl, hb6⟩
        have hc6 := bchain hc5 hb6
        clear hc5 hb6
        go_wp2_with fail
        refine (cab _).mono ?_
        rintro e w7 ⟨rfl, hb7⟩
        have hc7 := bchain hc6 hb7
        clear hc6 hb7
        go_wp2_with fail
        refine (cbc _).mono ?_
        rintro e w8 ⟨rfl, hb8⟩
        have hc8 := bchain hc7 hb8
        clear hc7 hb8
        go_wp2_with fail
        refine (caw _).mono ?_
        rintro e w9 ⟨rfl, hb9⟩
        have hc9 := bchain hc8 hb9
        clear hc8 hb9
        go_wp2_with fail
        go_ret
        exact ⟨rfl, hc9⟩
      · have hs := HT.out rfl rfl
        subst hs
        clear HA HT
        rcases hz with ⟨rfl, hz, hz2⟩ | ⟨rfl, hz, hz2⟩
        all_goals
        go_enter Tryd.func9, Tryd.ntmps9
        go_wp2_with fail
        refine (cck _).mono ?_
        rintro e w1 ⟨rfl, hb1⟩
        have hc1 := hb1
        clear hb1
        go_wp2_with fail
        refine (caa _).mono ?_
        rintro e w2 ⟨rfl, hb2⟩
        have hc2 := bchain hc1 hb2
        clear hc1 hb2
        go_wp2_with fail
        refine (car _).mono ?_
        rintro e w3 ⟨rfl, hb3⟩
        have hc3 := bchain hc2 hb3
        clear hc2 hb3
        go_wp2_with fail
        refine (cra _).mono ?_
        rintro e w4 ⟨rfl, hb4⟩
        have hc4 := bchain hc3 hb4
        clear hc3 hb4
        go_wp2_with fail
        refine (cab _).mono ?_
        rintro e w5 ⟨rfl, hb5⟩
        have hc5 := bchain hc4 hb5
        clear hc4 hb5
        go_wp2_with fail
        refine (cba _).mono ?_
        rintro e w6 ⟨rfl, hb6⟩
        have hc6 := bchain hc5 hb6
        clear hc5 hb6
        go_wp2_with fail
        refine (cab _).mono ?_
        rintro e w7 ⟨rfl, hb7⟩
        have hc7 := bchain hc6 hb7
        clear hc6 hb7
        go_wp2_with fail
        refine (cbc _).mono ?_
        rintro e w8 ⟨rfl, hb8⟩
        have hc8 := bchain hc7 hb8
        clear hc7 hb8
        go_wp2_with fail
        refine (cac _).mono ?_
        rintro e w9 ⟨rfl, hb9⟩
        have hc9 := bchain hc8 hb9
        clear hc8 hb9
        go_wp2_with fail
        refine (caw _).mono ?_
        rintro e w10 ⟨rfl, hb10⟩
        have hc10 := bchain hc9 hb10
        clear hc9 hb10
        go_wp2_with fail
        go_ret
        exact ⟨rfl, hc10⟩
    · have he := HA.out rfl rfl
      subst he
      cases r
      · clear HA HT
        rcases hz with ⟨rfl, hz, hz2⟩ | ⟨rfl, hz, hz2⟩
        all_goals
        go_enter Tryd.func9, Tryd.ntmps9
        go_wp2_with fail
        refine (cck _).mono ?_
        rintro e w1 ⟨rfl, hb1⟩
        have hc1 := hb1
        clear hb1
        go_wp2_with fail
        refine (caa _).mono ?_
        rintro e w2 ⟨rfl, hb2⟩
        have hc2 := bchain hc1 hb2
        clear hc1 hb2
        go_wp2_with fail
        refine (car _).mono ?_
        rintro e w3 ⟨rfl, hb3⟩
        have hc3 := bchain hc2 hb3
        clear hc2 hb3
        go_wp2_with fail
        refine (cra _).mono ?_
        rintro e w4 ⟨rfl, hb4⟩
        have hc4 := bchain hc3 hb4
        clear hc3 hb4
        go_wp2_with fail
        refine (cab _).mono ?_
        rintro e w5 ⟨rfl, hb5⟩
        have hc5 := bchain hc4 hb5
        clear hc4 hb5
        go_wp2_with fail
        refine (cba _).mono ?_
        rintro e w6 ⟨rfl, hb6⟩
        have hc6 := bchain hc5 hb6
        clear hc5 hb6
        go_wp2_with fail
        refine (cab _).mono ?_
        rintro e w7 ⟨rfl, hb7⟩
        have hc7 := bchain hc6 hb7
        clear hc6 hb7
        go_wp2_with fail
        refine (cbc _).mono ?_
        rintro e w8 ⟨rfl, hb8⟩
        have hc8 := bchain hc7 hb8
        clear hc7 hb8
        go_wp2_with fail
        refine (caw _).mono ?_
        rintro e w9 ⟨rfl, hb9⟩
        have hc9 := bchain hc8 hb9
        clear hc8 hb9
        go_wp2_with fail
        go_ret
        exact ⟨rfl, hc9⟩
      · have hs := HT.out rfl rfl
        subst hs
        clear HA HT
        rcases hz with ⟨rfl, hz, hz2⟩ | ⟨rfl, hz, hz2⟩
        all_goals
        go_enter Tryd.func9, Tryd.ntmps9
        go_wp2_with fail
        refine (cck _).mono ?_
        rintro e w1 ⟨rfl, hb1⟩
        have hc1 := hb1
        clear hb1
        go_wp2_with fail
        refine (caa _).mono ?_
        rintro e w2 ⟨rfl, hb2⟩
        have hc2 := bchain hc1 hb2
        clear hc1 hb2
        go_wp2_with fail
        refine (car _).mono ?_
        rintro e w3 ⟨rfl, hb3⟩
        have hc3 := bchain hc2 hb3
        clear hc2 hb3
        go_wp2_with fail
        refine (cra _).mono ?_
        rintro e w4 ⟨rfl, hb4⟩
        have hc4 := bchain hc3 hb4
        clear hc3 hb4
        go_wp2_with fail
        refine (cab _).mono ?_
        rintro e w5 ⟨rfl, hb5⟩
        have hc5 := bchain hc4 hb5
        clear hc4 hb5
        go_wp2_with fail
        refine (cba _).mono ?_
        rintro e w6 ⟨rfl, hb6⟩
        have hc6 := bchain hc5 hb6
        clear hc5 hb6
        go_wp2_with fail
        refine (cab _).mono ?_
        rintro e w7 ⟨rfl, hb7⟩
        have hc7 := bchain hc6 hb7
        clear hc6 hb7
        go_wp2_with fail
        refine (cbc _).mono ?_
        rintro e w8 ⟨rfl, hb8⟩
        have hc8 := bchain hc7 hb8
        clear hc7 hb8
        go_wp2_with fail
        refine (cac _).mono ?_
        rintro e w9 ⟨rfl, hb9⟩
        have hc9 := bchain hc8 hb9
        clear hc8 hb9
        go_wp2_with fail
        refine (caw _).mono ?_
        rintro e w10 ⟨rfl, hb10⟩
        have hc10 := bchain hc9 hb10
        clear hc9 hb10
        go_wp2_with fail
        go_ret
        exact ⟨rfl, hc10⟩

set_option maxHeartbeats 2000000 in
theorem law_subtrees (a0 a1 a2 a3 : ByteArray) (_w0 : a0.size ≤ 140737488351232) (_w1 : a1.size ≤ 140737488351232) (_w2 : a2.size ≤ 140737488351232) (_w3 : a3.size ≤ 140737488351232) (w : World) :
    Calls Tryd.prog 8 #[.string a0, .string a1, .string a2, .string a3] w fun e w' => e = .returned (.bool true) ∧ Below w.heap.size w w' := by
  by_cases h0 : 200 < (a0.size : Int)
  · go_enter Tryd.func8, Tryd.ntmps8
    go_wp2_with (go_at_call 11; refine (awake31_any _).mono ?_; rintro e w1 ⟨rfl, hb1⟩)
    go_ret
    exact ⟨rfl, hb1⟩
  by_cases h1 : 200 < (a1.size : Int)
  · go_enter Tryd.func8, Tryd.ntmps8
    go_wp2_with (go_at_call 11; refine (awake31_any _).mono ?_; rintro e w1 ⟨rfl, hb1⟩)
    go_ret
    exact ⟨rfl, hb1⟩
  by_cases h2 : 200 < (a2.size : Int)
  · go_enter Tryd.func8, Tryd.ntmps8
    go_wp2_with (go_at_call 11; refine (awake31_any _).mono ?_; rintro e w1 ⟨rfl, hb1⟩)
    go_ret
    exact ⟨rfl, hb1⟩
  by_cases h3 : 200 < (a3.size : Int)
  · go_enter Tryd.func8, Tryd.ntmps8
    go_wp2_with (go_at_call 11; refine (awake31_any _).mono ?_; rintro e w1 ⟨rfl, hb1⟩)
    go_ret
    exact ⟨rfl, hb1⟩
  have caw := fun w => awake31_any w
  have ck := fun w => pcheck_any a2 w (by omega)
  have uad := fun w => under_any a1 a0 w (by omega) (by omega)
  have ucd := fun w => under_any a3 a0 w (by omega) (by omega)
  have ubd := fun w => under_any a2 a0 w (by omega) (by omega)
  have cda := fun w => pcompare_any a0 a1 w (by omega) (by omega)
  have cab := fun w => pcompare_any a1 a2 w (by omega) (by omega)
  have cbc := fun w => pcompare_any a2 a3 w (by omega) (by omega)
  have f1 := @under_cmp a1.data.toList a0.data.toList
  have f2 := @under_between a1.data.toList a2.data.toList a3.data.toList a0.data.toList
  generalize Path.under a1.data.toList a0.data.toList = p at *
  generalize Path.under a3.data.toList a0.data.toList = q at *
  generalize Path.under a2.data.toList a0.data.toList = r at *
  generalize Path.cmp a0.data.toList a1.data.toList = C at *
  generalize Path.cmp a1.data.toList a2.data.toList = X at *
  generalize Path.cmp a2.data.toList a3.data.toList = Y at *
  generalize Path.err a2.data.toList = E at *
  have F1 := Lib.hid f1
  have F2 := Lib.hid f2
  clear f1 f2
  rcases Int.lt_or_le 0 X with hX | hX
  · cases p
    · clear F1 F2
      go_enter Tryd.func8, Tryd.ntmps8
      go_wp2_with fail
      refine (uad _).mono ?_
      rintro e w1 ⟨rfl, hb1⟩
      have hc1 := hb1
      clear hb1
      go_wp2_with fail
      refine (cab _).mono ?_
      rintro e w2 ⟨rfl, hb2⟩
      have hc2 := bchain hc1 hb2
      clear hc1 hb2
      go_wp2_with fail
      refine (caw _).mono ?_
      rintro e w3 ⟨rfl, hb3⟩
      have hc3 := bchain hc2 hb3
      clear hc2 hb3
      go_wp2_with fail
      go_ret
      exact ⟨rfl, hc3⟩
    · have hC := F1.out rfl
      clear F1 F2
      go_enter Tryd.func8, Tryd.ntmps8
      go_wp2_with fail
      refine (uad _).mono ?_
      rintro e w1 ⟨rfl, hb1⟩
      have hc1 := hb1
      clear hb1
      go_wp2_with fail
      refine (cda _).mono ?_
      rintro e w2 ⟨rfl, hb2⟩
      have hc2 := bchain hc1 hb2
      clear hc1 hb2
      go_wp2_with fail
      refine (cab _).mono ?_
      rintro e w3 ⟨rfl, hb3⟩
      have hc3 := bchain hc2 hb3
      clear hc2 hb3
      go_wp2_with fail
      refine (caw _).mono ?_
      rintro e w4 ⟨rfl, hb4⟩
      have hc4 := bchain hc3 hb4
      clear hc3 hb4
      go_wp2_with fail
      go_ret
      exact ⟨rfl, hc4⟩
  rcases Int.lt_or_le 0 Y with hY | hY
  · cases p
    · clear F1 F2
      go_enter Tryd.func8, Tryd.ntmps8
      go_wp2_with fail
      refine (uad _).mono ?_
      rintro e w1 ⟨rfl, hb1⟩
      have hc1 := hb1
      clear hb1
      go_wp2_with fail
      refine (cab _).mono ?_
      rintro e w2 ⟨rfl, hb2⟩
      have hc2 := bchain hc1 hb2
      clear hc1 hb2
      go_wp2_with fail
      refine (cbc _).mono ?_
      rintro e w3 ⟨rfl, hb3⟩
      have hc3 := bchain hc2 hb3
      clear hc2 hb3
      go_wp2_with fail
      refine (caw _).mono ?_
      rintro e w4 ⟨rfl, hb4⟩
      have hc4 := bchain hc3 hb4
      clear hc3 hb4
      go_wp2_with fail
      go_ret
      exact ⟨rfl, hc4⟩
    · have hC := F1.out rfl
      clear F1 F2
      go_enter Tryd.func8, Tryd.ntmps8
      go_wp2_with fail
      refine (uad _).mono ?_
      rintro e w1 ⟨rfl, hb1⟩
      have hc1 := hb1
      clear hb1
      go_wp2_with fail
      refine (cda _).mono ?_
      rintro e w2 ⟨rfl, hb2⟩
      have hc2 := bchain hc1 hb2
      clear hc1 hb2
      go_wp2_with fail
      refine (cab _).mono ?_
      rintro e w3 ⟨rfl, hb3⟩
      have hc3 := bchain hc2 hb3
      clear hc2 hb3
      go_wp2_with fail
      refine (cbc _).mono ?_
      rintro e w4 ⟨rfl, hb4⟩
      have hc4 := bchain hc3 hb4
      clear hc3 hb4
      go_wp2_with fail
      refine (caw _).mono ?_
      rintro e w5 ⟨rfl, hb5⟩
      have hc5 := bchain hc4 hb5
      clear hc4 hb5
      go_wp2_with fail
      go_ret
      exact ⟨rfl, hc5⟩
  rcases Classical.em (E = 0) with hE | hE
  rotate_left
  · have hE2 : (E == 0) = false := beq_eq_false_iff_ne.2 hE
    clear hE
    · cases p
      · clear F1 F2
        go_enter Tryd.func8, Tryd.ntmps8
        go_wp2_with fail
        refine (uad _).mono ?_
        rintro e w1 ⟨rfl, hb1⟩
        have hc1 := hb1
        clear hb1
        go_wp2_with fail
        refine (cab _).mono ?_
        rintro e w2 ⟨rfl, hb2⟩
        have hc2 := bchain hc1 hb2
        clear hc1 hb2
        go_wp2_with fail
        refine (cbc _).mono ?_
        rintro e w3 ⟨rfl, hb3⟩
        have hc3 := bchain hc2 hb3
        clear hc2 hb3
        go_wp2_with fail
        refine (ck _).mono ?_
        rintro e w4 ⟨rfl, hb4⟩
        have hc4 := bchain hc3 hb4
        clear hc3 hb4
        go_wp2_with fail
        refine (caw _).mono ?_
        rintro e w5 ⟨rfl, hb5⟩
        have hc5 := bchain hc4 hb5
        clear hc4 hb5
        go_wp2_with fail
        go_ret
        exact ⟨rfl, hc5⟩
      · have hC := F1.out rfl
        clear F1 F2
        go_enter Tryd.func8, Tryd.ntmps8
        go_wp2_with fail
        refine (uad _).mono ?_
        rintro e w1 ⟨rfl, hb1⟩
        have hc1 := hb1
        clear hb1
        go_wp2_with fail
        refine (cda _).mono ?_
        rintro e w2 ⟨rfl, hb2⟩
        have hc2 := bchain hc1 hb2
        clear hc1 hb2
        go_wp2_with fail
        refine (cab _).mono ?_
        rintro e w3 ⟨rfl, hb3⟩
        have hc3 := bchain hc2 hb3
        clear hc2 hb3
        go_wp2_with fail
        refine (cbc _).mono ?_
        rintro e w4 ⟨rfl, hb4⟩
        have hc4 := bchain hc3 hb4
        clear hc3 hb4
        go_wp2_with fail
        refine (ck _).mono ?_
        rintro e w5 ⟨rfl, hb5⟩
        have hc5 := bchain hc4 hb5
        clear hc4 hb5
        go_wp2_with fail
        refine (caw _).mono ?_
        rintro e w6 ⟨rfl, hb6⟩
        have hc6 := bchain hc5 hb6
        clear hc5 hb6
        go_wp2_with fail
        go_ret
        exact ⟨rfl, hc6⟩
  subst hE
  cases p
  · clear F1 F2
    go_enter Tryd.func8, Tryd.ntmps8
    go_wp2_with fail
    refine (uad _).mono ?_
    rintro e w1 ⟨rfl, hb1⟩
    have hc1 := hb1
    clear hb1
    go_wp2_with fail
    refine (cab _).mono ?_
    rintro e w2 ⟨rfl, hb2⟩
    have hc2 := bchain hc1 hb2
    clear hc1 hb2
    go_wp2_with fail
    refine (cbc _).mono ?_
    rintro e w3 ⟨rfl, hb3⟩
    have hc3 := bchain hc2 hb3
    clear hc2 hb3
    go_wp2_with fail
    refine (ck _).mono ?_
    rintro e w4 ⟨rfl, hb4⟩
    have hc4 := bchain hc3 hb4
    clear hc3 hb4
    go_wp2_with fail
    refine (uad _).mono ?_
    rintro e w5 ⟨rfl, hb5⟩
    have hc5 := bchain hc4 hb5
    clear hc4 hb5
    go_wp2_with fail
    refine (caw _).mono ?_
    rintro e w6 ⟨rfl, hb6⟩
    have hc6 := bchain hc5 hb6
    clear hc5 hb6
    go_wp2_with fail
    go_ret
    exact ⟨rfl, hc6⟩
  have hC := F1.out rfl
  cases q
  · clear F1 F2
    go_enter Tryd.func8, Tryd.ntmps8
    go_wp2_with fail
    refine (uad _).mono ?_
    rintro e w1 ⟨rfl, hb1⟩
    have hc1 := hb1
    clear hb1
    go_wp2_with fail
    refine (cda _).mono ?_
    rintro e w2 ⟨rfl, hb2⟩
    have hc2 := bchain hc1 hb2
    clear hc1 hb2
    go_wp2_with fail
    refine (cab _).mono ?_
    rintro e w3 ⟨rfl, hb3⟩
    have hc3 := bchain hc2 hb3
    clear hc2 hb3
    go_wp2_with fail
    refine (cbc _).mono ?_
    rintro e w4 ⟨rfl, hb4⟩
    have hc4 := bchain hc3 hb4
    clear hc3 hb4
    go_wp2_with fail
    refine (ck _).mono ?_
    rintro e w5 ⟨rfl, hb5⟩
    have hc5 := bchain hc4 hb5
    clear hc4 hb5
    go_wp2_with fail
    refine (uad _).mono ?_
    rintro e w6 ⟨rfl, hb6⟩
    have hc6 := bchain hc5 hb6
    clear hc5 hb6
    go_wp2_with fail
    refine (ucd _).mono ?_
    rintro e w7 ⟨rfl, hb7⟩
    have hc7 := bchain hc6 hb7
    clear hc6 hb7
    go_wp2_with fail
    refine (caw _).mono ?_
    rintro e w8 ⟨rfl, hb8⟩
    have hc8 := bchain hc7 hb8
    clear hc7 hb8
    go_wp2_with fail
    go_ret
    exact ⟨rfl, hc8⟩
  · have hr := F2.out rfl rfl hX hY rfl
    subst hr
    clear F1 F2
    go_enter Tryd.func8, Tryd.ntmps8
    go_wp2_with fail
    refine (uad _).mono ?_
    rintro e w1 ⟨rfl, hb1⟩
    have hc1 := hb1
    clear hb1
    go_wp2_with fail
    refine (cda _).mono ?_
    rintro e w2 ⟨rfl, hb2⟩
    have hc2 := bchain hc1 hb2
    clear hc1 hb2
    go_wp2_with fail
    refine (cab _).mono ?_
    rintro e w3 ⟨rfl, hb3⟩
    have hc3 := bchain hc2 hb3
    clear hc2 hb3
    go_wp2_with fail
    refine (cbc _).mono ?_
    rintro e w4 ⟨rfl, hb4⟩
    have hc4 := bchain hc3 hb4
    clear hc3 hb4
    go_wp2_with fail
    refine (ck _).mono ?_
    rintro e w5 ⟨rfl, hb5⟩
    have hc5 := bchain hc4 hb5
    clear hc4 hb5
    go_wp2_with fail
    refine (uad _).mono ?_
    rintro e w6 ⟨rfl, hb6⟩
    have hc6 := bchain hc5 hb6
    clear hc5 hb6
    go_wp2_with fail
    refine (ucd _).mono ?_
    rintro e w7 ⟨rfl, hb7⟩
    have hc7 := bchain hc6 hb7
    clear hc6 hb7
    go_wp2_with fail
    refine (ubd _).mono ?_
    rintro e w8 ⟨rfl, hb8⟩
    have hc8 := bchain hc7 hb8
    clear hc7 hb8
    go_wp2_with fail
    refine (caw _).mono ?_
    rintro e w9 ⟨rfl, hb9⟩
    have hc9 := bchain hc8 hb9
    clear hc8 hb9
    go_wp2_with fail
    go_ret
    exact ⟨rfl, hc9⟩
end Go.Proofs.YtgdmclhkoaadmaaDoor
