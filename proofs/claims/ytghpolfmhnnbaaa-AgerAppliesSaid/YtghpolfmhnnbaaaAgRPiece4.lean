/-
  The reference's piece, kind 5.
-/
import Derived.Test.YtghpolfmhnnbaaaAgRPiece3
namespace Go.Proofs.Ytghpolfmhnnbaaa
open Go.RowKit

theorem lit5 (x : List UInt8) (a : Nat) (X : World) : Strs (X.alloc (.cells #[.string ((⟨x.toArray⟩ : ByteArray).extract 0 a), .string ((⟨x.toArray⟩ : ByteArray).extract a (⟨x.toArray⟩ : ByteArray).size)] 9)) (some ⟨X.heap.size, 0, none⟩) 2 [x.take a, x.drop a] :=
  strs_lit (bs := [x.take a, x.drop a]) (by rw [mk_take, mk_drop]; rfl) (heap_alloc_new X _)
set_option maxHeartbeats 4000000 in
theorem rpiece_5 (x : List UInt8) (r p l : Int) (a : Nat) (w : World) (h1 : 1 ≤ a) (ha : a < x.length) :
    Calls Try.prog 24 #[.string ⟨x.toArray⟩, .agg #[.int .i64 5, .int .i64 r, .int .i64 p, .int .i64 a, .int .i64 l]] w (PieceP (some [x.take a, x.drop a]) w) := by
  have hsz : (⟨x.toArray⟩ : ByteArray).size = x.length := mk_size x
  obtain ⟨W, hW, hbW, hzW, d0, d1, d2, d3, d4⟩ := dbox w 5 r p a l
  have h2 : (0 : Int) ≤ (a : Int) := by omega
  have h3 : (a : Int) < ((⟨x.toArray⟩ : ByteArray).size : Int) := by omega
  have h4 : (0 : Int) < (a : Int) := by omega
  have h5 : a ≤ (⟨x.toArray⟩ : ByteArray).size := by omega
  have h6 : (a : Int) ≤ ((⟨x.toArray⟩ : ByteArray).size : Int) := by omega
  have HF := Lib.hid fun X : World => lit5 x a X
  have hbd : Below W.heap.size W W.drew := (Below.refl W.heap.size W).drew
  have HBD := Lib.hid (hbW.trans (hbd.mono hbW.size))
  clear hsz hzW hbd
  generalize (⟨x.toArray⟩ : ByteArray) = U at *
  generalize x.take a = y at *
  generalize x.drop a = z at *
  go_enter Try.func24, Try.ntmps24
  go_upto_region 13 with (fail)
  go_region_held3 (fun w' => w'.cell? ⟨w.heap.size, 3, none⟩ = some (.int .i64 a))
    (go_keep)
    (fail)
  all_goals
    go_wp2_with fail
    go_ret2
    exact ⟨_, rfl, (fun q hq => by injection hq with hq; subst hq; exact ⟨_, _, rfl, by simp, by simp, HF.out W.drew⟩), HBD.out.alloc HBD.out.size _⟩
set_option maxHeartbeats 4000000 in
theorem rpiece_50 (x : List UInt8) (r p l : Int) (w : World) (ha : 0 < x.length) :
    Calls Try.prog 24 #[.string ⟨x.toArray⟩, .agg #[.int .i64 5, .int .i64 r, .int .i64 p, .int .i64 0, .int .i64 l]] w (PieceP none w) := by
  have hsz : (⟨x.toArray⟩ : ByteArray).size = x.length := mk_size x
  obtain ⟨W, hW, hbW, hzW, d0, d1, d2, d3, d4⟩ := dbox w 5 r p 0 l
  have h3 : (0 : Int) < ((⟨x.toArray⟩ : ByteArray).size : Int) := by omega
  clear hsz hzW
  generalize (⟨x.toArray⟩ : ByteArray) = U at *
  go_enter Try.func24, Try.ntmps24
  go_wp2_with fail
  go_ret2
  exact ⟨_, rfl, (fun q hq => by cases hq), hbW⟩
end Go.Proofs.Ytghpolfmhnnbaaa
