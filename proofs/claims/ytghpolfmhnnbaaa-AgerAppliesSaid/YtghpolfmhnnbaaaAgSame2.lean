/-
  steleref59.Same, of reels that are equal; ager.Age; stelelaw59.whole.
-/
import Derived.Test.YtghpolfmhnnbaaaAgSame
import Derived.Test.YtghpolfmhnnbaaaAgRArgs
import Derived.Deep.RegionHeld3
namespace Go.Proofs.Ytghpolfmhnnbaaa
open Go.RowKit

theorem samereel_true (a1 a2 : Option Addr) (c1 c2 : Nat) (num : Int) (xs : List (List UInt8)) (w : World) (h1 : Strs w a1 xs.length xs) (h2 : Strs w a2 xs.length xs) (hn : xs.length ≤ 9223372036854775807) :
    Calls Try.prog 18 #[.agg #[.int .i64 num, .slice a1 xs.length c1], .agg #[.int .i64 num, .slice a2 xs.length c2]] w fun e w' => e = .returned (.bool true) ∧ Below w.heap.size w w' := by
  refine (samereel_any a1 a2 c1 c2 num num xs xs w h1 h2 hn).mono ?_
  rintro e w' ⟨rfl, hb⟩
  exact ⟨by rw [beq_self_eq_true, beq_self_eq_true]; rfl, hb⟩

set_option maxHeartbeats 4000000 in
theorem same_true (a1 a2 : Option Addr) (n c1 c2 : Nat) (rs : List Reel) (w : World) (h1 : Reels w a1 n rs) (h2 : Reels w a2 n rs) (hn : n ≤ 9223372036854775807) (hp : ∀ r ∈ rs, r.ps.length ≤ 9223372036854775807) :
    Calls Try.prog 13 #[.slice a1 n c1, .slice a2 n c2] w fun e w' => e = .returned (.bool true) ∧ Below w.heap.size w w' := by
  have H1 := Lib.hid h1
  have H2 := Lib.hid h2
  have HP := Lib.hid hp
  obtain ⟨rfl, _⟩ := h1
  clear h2 hp
  have hne : ((rs.length : Int) != (rs.length : Int)) = false := by rw [bne_eq_false_iff_eq]
  go_enter Try.func13, Try.ntmps13
  go_wp2_with fail
  go_loopw [5] (fun i wr => ∃ k : Nat, k ≤ rs.length ∧ i = .int .i64 k ∧ Below w.heap.size w wr) (fun i _ => rs.length - (intOf i).toNat)
  case atStart => exact ⟨0, Nat.zero_le _, rfl, Below.refl _ _⟩
  case round =>
    obtain ⟨k, hk, rfl, hb⟩ := hrel
    by_cases hlt : k < rs.length
    · obtain ⟨r, hx⟩ : ∃ x, rs[k]? = some x := ⟨_, List.getElem?_eq_getElem hlt⟩
      obtain ⟨b1, o1, hao, x0, ap, cp, x1, _, s1⟩ := (H1.out.below hb).2 k r hx
      obtain ⟨b2, o2, hbo, y0, bp, dp, y1, _, s2⟩ := (H2.out.below hb).2 k r hx
      subst hao hbo
      have hpl := HP.out r (List.mem_of_getElem? hx)
      have HC := Lib.hid (samereel_true ap bp cp dp r.num r.ps wr.drew s1 s2 hpl)
      have l1 := World.block_lt_of_cell? _ _ x0
      have l2 := World.block_lt_of_cell? _ _ y0
      have h9 : (k : Int) < (rs.length : Int) := by omega
      clear s1 s2 hx
      go_wp2_with fail
      go_region_held3 (fun w' => w'.cell? ⟨b1, o1 + k * 2, none⟩ = some (.int .i64 r.num) ∧ w'.cell? ⟨b1, o1 + k * 2 + 1, none⟩ = some (.slice ap r.ps.length cp) ∧ w'.cell? ⟨b2, o2 + k * 2, none⟩ = some (.int .i64 r.num) ∧ w'.cell? ⟨b2, o2 + k * 2 + 1, none⟩ = some (.slice bp r.ps.length dp))
        (first | exact ⟨x0, x1, y0, y1⟩ | exact ⟨z0, z1, z2, z3⟩)
        ((go_at_call 18; refine HC.out.mono ?_; rintro e w1 ⟨rfl, hb1⟩; have hbx : Below wr.heap.size wr w1 := (Below.refl wr.heap.size wr).drew.trans hb1; have z0 := (hbx.cell (p := ⟨b1, o1 + k * 2, none⟩) l1).trans x0; have z1 := (hbx.cell (p := ⟨b1, o1 + k * 2 + 1, none⟩) l1).trans x1; have z2 := (hbx.cell (p := ⟨b2, o2 + k * 2, none⟩) l2).trans y0; have z3 := (hbx.cell (p := ⟨b2, o2 + k * 2 + 1, none⟩) l2).trans y1))
      have hfin := hb.trans (hbx.mono hb.size)
      go_wp2_with fail
      go_roundw
      case rel => first | exact ⟨k + 1, by omega, by go_num, hfin⟩ | ((repeat apply Exists.intro); exact ⟨⟨k + 1, by omega, by go_num, hfin⟩, rfl⟩)
      case measure => simp [intOf]; omega
    · obtain rfl : k = rs.length := by omega
      go_wp2_with fail
      go_ret
      exact ⟨rfl, hb⟩

set_option maxHeartbeats 2000000 in
theorem whole_any (num : Int) (ap : Option Addr) (cp : Nat) (ps : List (List UInt8)) (w : World) (h : Strs w ap ps.length ps) (hn : ps.length ≤ 65536) (hx : ∀ x ∈ ps, x.length ≤ 65536) :
    Calls Try.prog 19 #[.agg #[.int .i64 num, .slice ap ps.length cp]] w fun e w' => e = .returned (.string ⟨ps.flatten.toArray⟩) ∧ Below w.heap.size w w' := by
  obtain ⟨W, hW, hbW, hzW, d0, d1⟩ : ∃ W, w.alloc (.cells #[.int .i64 num, .slice ap ps.length cp] 38) = W ∧ Below w.heap.size w W ∧ W.heap.size = w.heap.size + 1 ∧ W.cell? ⟨w.heap.size, 0, none⟩ = some (.int .i64 num) ∧ W.cell? ⟨w.heap.size, 1, none⟩ = some (.slice ap ps.length cp) := by
    have h := heap_alloc_new w (.cells #[.int .i64 num, .slice ap ps.length cp] 38)
    exact ⟨_, rfl, (Below.refl _ w).alloc (Nat.le_refl _) _, by simp, blk_cell h 0 _ rfl, blk_cell h 1 _ rfl⟩
  have HST := Lib.hid (h.below hbW)
  have HX := Lib.hid hx
  obtain ⟨E, hE⟩ : ∃ E : ByteArray, (⟨ps.flatten.toArray⟩ : ByteArray) = E := ⟨_, rfl⟩
  have HE := Lib.hid hE
  rw [hE]
  clear h hx hzW hE
  go_enter Try.func19, Try.ntmps19
  go_wp2_with fail
  go_loop [3, 9] (fun s i => ∃ k : Nat, k ≤ ps.length ∧ i = .int .i64 k ∧ ∃ S : ByteArray, s = .string S ∧ S.size ≤ k * 65536 ∧ Hid (S.data.toList = (ps.take k).flatten)) (fun _ i => ps.length - (intOf i).toNat)
  case atStart => exact ⟨0, Nat.zero_le _, rfl, ByteArray.empty, rfl, by simp, rfl⟩
  case round =>
    obtain ⟨k, hk, rfl, S, rfl, hS, hS2⟩ := hrel
    by_cases hlt : k < ps.length
    · obtain ⟨x, hy⟩ : ∃ x, ps[k]? = some x := ⟨_, List.getElem?_eq_getElem hlt⟩
      obtain ⟨b1, o1, hao, hc⟩ := HST.out.2 k x hy
      subst hao
      have hxl := HX.out x (List.mem_of_getElem? hy)
      rw [← mk_size x] at hxl
      have hxd : Hid ((⟨x.toArray⟩ : ByteArray).data.toList = x) := rfl
      have hn2 : Hid ((ps.take (k + 1)).flatten = (ps.take k).flatten ++ x) := by
        show _ = _
        rw [List.take_add_one, hy]
        simp
      clear hy
      generalize (⟨x.toArray⟩ : ByteArray) = Y at *
      have h64 : S.size + Y.size ≤ (k + 1) * 65536 := by omega
      go_wp2_with fail
      go_round
      case rel => exact ⟨k + 1, by omega, by go_num, S ++ Y, rfl, by rw [ByteArray.size_append]; exact h64, by show _ = _; rw [app_data, hS2.out, hxd.out, hn2.out]⟩
      case measure => simp [intOf]; omega
    · obtain rfl : k = ps.length := by omega
      have hfin : S = E := by
        rw [← HE.out]
        refine of_toList ?_
        rw [hS2.out, List.take_length]
      subst hfin
      go_wp2_with fail
      go_ret
      exact ⟨rfl, hbW⟩
end Go.Proofs.Ytghpolfmhnnbaaa
