/-
  The walk of AgerMeasures, where it asks nothing.
-/
import Derived.Test.YtghpolfmhnnbaaaDoorAgMeasP
import Derived.Test.YtghpolfmhnnbaaaDoorAgRArgs
namespace Go.Proofs.YtghpolfmhnnbaaaDoor
open Go.RowKit

/-- What is asked of the arguments. -/
def MeasArg (w : World) (ao : Option Addr) (cap : Nat) (rs : List Reel) : Prop :=
  Reels w ao rs.length rs ∧ rs.length ≤ cap ∧ cap ≤ 9223372036854775807 ∧ ∀ r ∈ rs, r.ps.length ≤ 9223372036854775807 ∧ ∀ x ∈ r.ps, x.length ≤ 9223372036854775807

set_option maxHeartbeats 4000000 in
set_option maxRecDepth 100000 in
theorem meas_skip1 (j q a : Nat) (ao : Option Addr) (cap : Nat) (rs : List Reel) (w : World) (hr : MeasArg w ao cap rs) (hs : ¬ smallR rs = true) :
    Calls Tryd.prog 3 #[.slice ao rs.length cap, .int .u8 j, .int .u8 q, .int .u8 a] w fun e w' => e = .returned (.bool true) ∧ Below w.heap.size w w' := by
  have HG := meas_great (cap := cap) hr.1 hr.2.2.2 (by have := hr.2.1; have := hr.2.2.1; omega) 1 (if_neg hs)
  clear hr hs
  go_enter Tryd.func3, Tryd.ntmps3
  go_wp2_with fail
  refine HG.out.mono ?_
  rintro e w1 ⟨rfl, rfl⟩
  go_wp2_with fail
  refine (awake59_any _).mono ?_
  rintro e w2 ⟨rfl, hb2⟩
  go_wp2_with fail
  go_ret
  exact ⟨rfl, hb2⟩
set_option maxHeartbeats 4000000 in
set_option maxRecDepth 100000 in
theorem meas_skip2 (j q a : Nat) (ao : Option Addr) (cap : Nat) (rs : List Reel) (w : World) (hr : MeasArg w ao cap rs) (hs : smallR rs = true) (hj8 : j < 256) (hn : rs.length ≤ j) :
    Calls Tryd.prog 3 #[.slice ao rs.length cap, .int .u8 j, .int .u8 q, .int .u8 a] w fun e w' => e = .returned (.bool true) ∧ Below w.heap.size w w' := by
  have HG := meas_great (cap := cap) hr.1 hr.2.2.2 (by have := hr.2.1; have := hr.2.2.1; omega) 0 (if_pos hs)
  have q1 : IntKind.i64.wrap (j : Int) = (j : Int) := IntWalk.i64_in _ (by omega)
  have h1 : (rs.length : Int) ≤ (j : Int) := by omega
  clear hr hs hn hj8
  go_enter Tryd.func3, Tryd.ntmps3
  go_wp2_with fail
  refine HG.out.mono ?_
  rintro e w1 ⟨rfl, rfl⟩
  go_wp2_with fail
  refine (awake59_any _).mono ?_
  rintro e w2 ⟨rfl, hb2⟩
  go_wp2_with fail
  go_ret
  exact ⟨rfl, hb2⟩
set_option maxHeartbeats 4000000 in
set_option maxRecDepth 100000 in
theorem meas_skip3 (j q a : Nat) (ao : Option Addr) (cap : Nat) (rs : List Reel) (r : Reel) (w : World) (hr : MeasArg w ao cap rs) (hs : smallR rs = true) (hj : rs[j]? = some r) (hq8 : q < 256) (hn : r.ps.length ≤ q) :
    Calls Tryd.prog 3 #[.slice ao rs.length cap, .int .u8 j, .int .u8 q, .int .u8 a] w fun e w' => e = .returned (.bool true) ∧ Below w.heap.size w w' := by
  have HG := meas_great (cap := cap) hr.1 hr.2.2.2 (by have := hr.2.1; have := hr.2.2.1; omega) 0 (if_pos hs)
  have hl6 := (meas_small hs).1
  have hjl := (List.getElem?_eq_some_iff.1 hj).1
  have q1 : IntKind.i64.wrap (j : Int) = (j : Int) := IntWalk.i64_in _ (by omega)
  have q2 : IntKind.i64.wrap (q : Int) = (q : Int) := IntWalk.i64_in _ (by omega)
  have h1 : ¬ ((rs.length : Int) ≤ (j : Int)) := by omega
  have h2 : (0 : Int) ≤ (j : Int) := by omega
  have h3 : (j : Int) < (rs.length : Int) := by omega
  have h4 : (r.ps.length : Int) ≤ (q : Int) := by omega
  obtain ⟨b1, o1, rfl, _, ap, cp, hc2, _, hst⟩ := hr.1.2 j r hj
  clear hr hs hn hq8 hst hj
  go_enter Tryd.func3, Tryd.ntmps3
  go_wp2_with fail
  refine HG.out.mono ?_
  rintro e w1 ⟨rfl, rfl⟩
  go_wp2_with fail
  refine (awake59_any _).mono ?_
  rintro e w2 ⟨rfl, hb2⟩
  go_wp2_with fail
  go_ret
  exact ⟨rfl, hb2⟩
set_option maxHeartbeats 4000000 in
set_option maxRecDepth 100000 in
theorem meas_skip4 (j q a : Nat) (ao : Option Addr) (cap : Nat) (rs : List Reel) (r : Reel) (x : List UInt8) (w : World) (hr : MeasArg w ao cap rs) (hs : smallR rs = true) (hj : rs[j]? = some r) (hx : r.ps[q]? = some x) (ha8 : a < 256) (hn : x.length ≤ a) :
    Calls Tryd.prog 3 #[.slice ao rs.length cap, .int .u8 j, .int .u8 q, .int .u8 a] w fun e w' => e = .returned (.bool true) ∧ Below w.heap.size w w' := by
  have HG := meas_great (cap := cap) hr.1 hr.2.2.2 (by have := hr.2.1; have := hr.2.2.1; omega) 0 (if_pos hs)
  have hl6 := (meas_small hs).1
  have hp6 := ((meas_small hs).2.1 r (List.mem_of_getElem? hj)).1
  have hjl := (List.getElem?_eq_some_iff.1 hj).1
  have hql := (List.getElem?_eq_some_iff.1 hx).1
  have q1 : IntKind.i64.wrap (j : Int) = (j : Int) := IntWalk.i64_in _ (by omega)
  have q2 : IntKind.i64.wrap (q : Int) = (q : Int) := IntWalk.i64_in _ (by omega)
  have q3 : IntKind.i64.wrap (a : Int) = (a : Int) := IntWalk.i64_in _ (by omega)
  have h1 : ¬ ((rs.length : Int) ≤ (j : Int)) := by omega
  have h2 : (0 : Int) ≤ (j : Int) := by omega
  have h3 : (j : Int) < (rs.length : Int) := by omega
  have h4 : ¬ ((r.ps.length : Int) ≤ (q : Int)) := by omega
  have h5 : (0 : Int) ≤ (q : Int) := by omega
  have h6 : (q : Int) < (r.ps.length : Int) := by omega
  obtain ⟨b1, o1, rfl, _, ap, cp, hc2, _, hst⟩ := hr.1.2 j r hj
  obtain ⟨bp, op, rfl, hcx⟩ := hst.2 q x hx
  have h7 : (((⟨x.toArray⟩ : ByteArray).size : Nat) : Int) ≤ (a : Int) := by
    have : (⟨x.toArray⟩ : ByteArray).size = x.length := rfl
    omega
  generalize (⟨x.toArray⟩ : ByteArray) = U at *
  clear hr hs hn ha8 hst hj hx
  go_enter Tryd.func3, Tryd.ntmps3
  go_wp2_with fail
  refine HG.out.mono ?_
  rintro e w1 ⟨rfl, rfl⟩
  go_wp2_with fail
  refine (awake59_any _).mono ?_
  rintro e w2 ⟨rfl, hb2⟩
  go_wp2_with fail
  go_ret
  exact ⟨rfl, hb2⟩
set_option maxHeartbeats 4000000 in
set_option maxRecDepth 100000 in
theorem meas_skip5 (j q a : Nat) (ao : Option Addr) (cap : Nat) (rs : List Reel) (r : Reel) (x : List UInt8) (w : World) (hr : MeasArg w ao cap rs) (hs : smallR rs = true) (hj : rs[j]? = some r) (hx : r.ps[q]? = some x) (hal : a < x.length) (hok : Cells.ok x = false) :
    Calls Tryd.prog 3 #[.slice ao rs.length cap, .int .u8 j, .int .u8 q, .int .u8 a] w fun e w' => e = .returned (.bool true) ∧ Below w.heap.size w w' := by
  have HG := meas_great (cap := cap) hr.1 hr.2.2.2 (by have := hr.2.1; have := hr.2.2.1; omega) 0 (if_pos hs)
  have hl6 := (meas_small hs).1
  obtain ⟨hp6, hx6⟩ := (meas_small hs).2.1 r (List.mem_of_getElem? hj)
  have hxl := hx6 x (List.mem_of_getElem? hx)
  have hjl := (List.getElem?_eq_some_iff.1 hj).1
  have hql := (List.getElem?_eq_some_iff.1 hx).1
  have q1 : IntKind.i64.wrap (j : Int) = (j : Int) := IntWalk.i64_in _ (by omega)
  have q2 : IntKind.i64.wrap (q : Int) = (q : Int) := IntWalk.i64_in _ (by omega)
  have q3 : IntKind.i64.wrap (a : Int) = (a : Int) := IntWalk.i64_in _ (by omega)
  have h1 : ¬ ((rs.length : Int) ≤ (j : Int)) := by omega
  have h2 : (0 : Int) ≤ (j : Int) := by omega
  have h3 : (j : Int) < (rs.length : Int) := by omega
  have h4 : ¬ ((r.ps.length : Int) ≤ (q : Int)) := by omega
  have h5 : (0 : Int) ≤ (q : Int) := by omega
  have h6 : (q : Int) < (r.ps.length : Int) := by omega
  obtain ⟨b1, o1, rfl, _, ap, cp, hc2, _, hst⟩ := hr.1.2 j r hj
  obtain ⟨bp, op, rfl, hcx⟩ := hst.2 q x hx
  have hsz : (⟨x.toArray⟩ : ByteArray).size = x.length := rfl
  have h7 : ¬ ((((⟨x.toArray⟩ : ByteArray).size : Nat) : Int) ≤ (a : Int)) := by omega
  have HK := Lib.hid (fun w => check_any ⟨x.toArray⟩ w (by omega))
  have hke : Cells.err (⟨x.toArray⟩ : ByteArray).data.toList = 3 := Cells.err_bad hok
  rw [hke] at HK
  generalize (⟨x.toArray⟩ : ByteArray) = U at *
  clear hr hs hst hj hx hsz hke hok hx6
  go_enter Tryd.func3, Tryd.ntmps3
  go_wp2_with fail
  refine HG.out.mono ?_
  rintro e w1 ⟨rfl, rfl⟩
  go_wp2_with fail
  refine (HK.out _).mono ?_
  rintro e w2 ⟨rfl, hb2⟩
  go_wp2_with fail
  refine (awake59_any _).mono ?_
  rintro e w3 ⟨rfl, hb3⟩
  go_wp2_with fail
  go_ret
  exact ⟨rfl, hb2.trans (hb3.mono hb2.size)⟩
end Go.Proofs.YtghpolfmhnnbaaaDoor
