/-
  The reference's piece, kind 2 inside.
-/
import Derived.Test.YtghpolfmhnnbaaaAgRPiece2
namespace Go.Proofs.Ytghpolfmhnnbaaa
open Go.RowKit

set_option maxHeartbeats 4000000 in
theorem rpiece_2 (x : List UInt8) (r p l : Int) (a : Nat) (c : UInt8) (w : World) (hx : x.length ≤ 65536) (ha : a < x.length) (hc : x[a]? = some c) :
    Calls Try.prog 24 #[.string ⟨x.toArray⟩, .agg #[.int .i64 2, .int .i64 r, .int .i64 p, .int .i64 a, .int .i64 l]] w (PieceP (some [put x a 1 (inv1 c)]) w) := by
  have hsz : (⟨x.toArray⟩ : ByteArray).size = x.length := mk_size x
  obtain ⟨W, hW, hbW, hzW, d0, d1, d2, d3, d4⟩ := dbox w 2 r p a l
  have h2 : (0 : Int) ≤ (a : Int) := by omega
  have h3 : (a : Int) < ((⟨x.toArray⟩ : ByteArray).size : Int) := by omega
  have hb := fun (X : World) => rburst_any x a 1 1 (inv1 c) X ha hx (by omega) (by omega)
  have HC := Lib.hid hb
  have HF := Lib.hid fun X : World => lit1 (put x a 1 (inv1 c)) X
  have hci : ∀ h : a < (⟨x.toArray⟩ : ByteArray).size, (⟨x.toArray⟩ : ByteArray)[a] = c := fun h => by
    have h1 := get_of_lt ⟨x.toArray⟩ a h
    have h3 : (⟨x.toArray⟩ : ByteArray).data.toList = x := rfl
    rw [h3, hc] at h1
    exact (Option.some.inj h1).symm
  have h2n : a < (⟨x.toArray⟩ : ByteArray).size := by omega
  have hlw : w.heap.size < W.heap.size := by omega
  clear hsz hzW hb hc
  generalize (⟨x.toArray⟩ : ByteArray) = U at *
  generalize put x a 1 (inv1 c) = y at *
  have hcc := hci h2n
  have r4 : ∀ V : World, (Instr.index 9 (.string U) (.int .i64 a)).run Try.prog V = .ok (.int .u8 c.toNat) V := fun V => by
    have := hcc
    go_simp
  clear hci hcc
  go_enter Try.func24, Try.ntmps24
  go_upto_region 8 with (fail)
  go_region_held3 (fun w' => w'.cell? ⟨w.heap.size, 3, none⟩ = some (.int .i64 a))
    (first | go_keep | exact z0)
    (first | (go_at_call 41; refine (rinvert_any c _).mono ?_; rintro e w6 ⟨rfl, rfl⟩) | (go_at_call 40; refine (HC.out W.drew).mono ?_; rintro e w5 ⟨rfl, hb5⟩; have hb1 : Below W.heap.size W w5 := (Below.refl W.heap.size W).drew.trans hb5; have z0 := (hb1.cell (p := ⟨w.heap.size, 3, none⟩) hlw).trans d3))
  all_goals
    go_wp2_with fail
    go_ret2
    exact ⟨_, rfl, (fun q hq => by injection hq with hq; subst hq; exact ⟨_, _, rfl, by simp, by simp, HF.out w5⟩), ((hbW.trans (hb1.mono hbW.size)).alloc (Nat.le_trans hbW.size hb1.size) _)⟩
end Go.Proofs.Ytghpolfmhnnbaaa
