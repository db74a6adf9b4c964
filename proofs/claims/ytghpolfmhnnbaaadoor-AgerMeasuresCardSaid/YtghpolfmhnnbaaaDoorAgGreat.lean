/-
  steleref59.Great.
-/
import Derived.Test.YtghpolfmhnnbaaaDoorAgReels
namespace Go.Proofs.YtghpolfmhnnbaaaDoor
open Go.RowKit

theorem all_take {α : Type} (f : α → Bool) (l : List α) (k : Nat) (x : α) (h : l[k]? = some x) : (l.take (k + 1)).all f = ((l.take k).all f && f x) := by
  rw [List.take_add_one, h]
  simp [List.all_append]
theorem all_bad {α : Type} (f : α → Bool) (l : List α) (k : Nat) (x : α) (h : l[k]? = some x) (hf : f x = false) : l.all f = false := by
  rw [List.all_eq_false]
  exact ⟨x, List.mem_of_getElem? h, by rw [hf]; decide⟩

set_option maxHeartbeats 2000000 in
theorem great59_any (ao : Option Addr) (n cap : Nat) (rs : List Reel) (w : World) (hr : Reels w ao n rs) (hn : n ≤ 9223372036854775807) (hp : ∀ r ∈ rs, r.ps.length ≤ 9223372036854775807 ∧ ∀ x ∈ r.ps, x.length ≤ 9223372036854775807) :
    Calls Tryd.prog 4 #[.slice ao n cap] w fun e w' => e = .returned (.int .i64 (if smallR rs then 0 else 1)) ∧ w' = w := by
  obtain ⟨rfl, hr⟩ := hr
  by_cases h6 : 6 < rs.length
  · have hs : smallR rs = false := by unfold smallR; rw [decide_eq_false (by omega), Bool.false_and]
    rw [hs]
    go_enter Tryd.func4, Tryd.ntmps4
    go_wp2_with fail
    go_ret
    exact ⟨rfl, rfl⟩
  have hs : smallR rs = rs.all fun r => smallP r.ps := by unfold smallR; rw [decide_eq_true (by omega), Bool.true_and]
  rw [hs]
  clear hs
  obtain ⟨E, hE⟩ : ∃ E : Int, (if (rs.all fun r => smallP r.ps) then (0 : Int) else 1) = E := ⟨_, rfl⟩
  have HE := Lib.hid hE
  have HR := Lib.hid hr
  have HP := Lib.hid hp
  rw [hE]
  clear hE hr hp
  go_enter Tryd.func4, Tryd.ntmps4
  go_wp2_with fail
  go_loop [3] (fun i => ∃ k : Nat, k ≤ rs.length ∧ i = .int .i64 k ∧ Hid (((rs.take k).all fun r => smallP r.ps) = true)) (fun i => rs.length - (intOf i).toNat)
  case atStart => exact ⟨0, Nat.zero_le _, rfl, Lib.hid rfl⟩
  case round =>
    obtain ⟨k, hk, rfl, hok⟩ := hrel
    by_cases hlt : k < rs.length
    · obtain ⟨r, hx⟩ : ∃ x, rs[k]? = some x := ⟨_, List.getElem?_eq_getElem hlt⟩
      obtain ⟨b1, o1, rfl, hc1, ap, cp, hc2, hcp, hst⟩ := HR.out k r hx
      obtain ⟨hp1, hp2⟩ := HP.out r (List.mem_of_getElem? hx)
      have hbad : smallP r.ps = false → E = 1 := fun h => by rw [← HE.out, all_bad _ rs k r hx h]; rfl
      have HB := Lib.hid hbad
      have HS := Lib.hid (all_take (fun r : Reel => smallP r.ps) rs k r hx)
      have HST := Lib.hid hst.2
      have HP2 := Lib.hid hp2
      clear hbad hst hp2
      by_cases h7 : 6 < r.ps.length
      · have hf : E = 1 := HB.out (by unfold smallP; rw [decide_eq_false (by omega), Bool.false_and])
        subst hf
        go_wp2_with fail
        go_ret
        exact ⟨rfl, rfl⟩
      · have HV : Hid (smallP r.ps = r.ps.all fun x => decide (x.length ≤ 200)) := by
          show _ = _
          unfold smallP
          rw [decide_eq_true (by omega), Bool.true_and]
        go_wp2_with fail
        go_loop [4] (fun j => ∃ m : Nat, m ≤ r.ps.length ∧ j = .int .i64 m ∧ Hid (((r.ps.take m).all fun x => decide (x.length ≤ 200)) = true)) (fun j => r.ps.length - (intOf j).toNat)
        case atStart => exact ⟨0, Nat.zero_le _, rfl, Lib.hid rfl⟩
        case round =>
          obtain ⟨m, hm, rfl, hom⟩ := hrel
          by_cases hml : m < r.ps.length
          · obtain ⟨x, hy⟩ : ∃ x, r.ps[m]? = some x := ⟨_, List.getElem?_eq_getElem hml⟩
            obtain ⟨b2, o2, rfl, hc3⟩ := HST.out m x hy
            have hxl : (⟨x.toArray⟩ : ByteArray).size = x.length := mk_size x
            have hxb := HP2.out x (List.mem_of_getElem? hy)
            have HS2 := Lib.hid (all_take (fun x : List UInt8 => decide (x.length ≤ 200)) r.ps m x hy)
            have HBx := Lib.hid fun (h : 200 < x.length) => HB.out (by rw [HV.out, all_bad _ r.ps m x hy (decide_eq_false (by omega))])
            rw [← hxl] at hxb HS2 HBx
            clear hxl hy
            generalize (⟨x.toArray⟩ : ByteArray) = X at *
            by_cases h2 : 200 < X.size
            · have hf : E = 1 := HBx.out h2
              subst hf
              go_wp2_with fail
              go_ret
              exact ⟨rfl, rfl⟩
            · have hnext : Hid (((r.ps.take (m + 1)).all fun x => decide (x.length ≤ 200)) = true) := by
                show _ = true
                rw [HS2.out, hom.out, decide_eq_true (by omega)]
                rfl
              go_wp2_with fail
              go_round
              case rel => exact ⟨m + 1, by omega, by go_num, hnext⟩
              case measure => simp [intOf]; omega
          · obtain rfl : m = r.ps.length := by omega
            have hnext : Hid (((rs.take (k + 1)).all fun r => smallP r.ps) = true) := by
              show _ = true
              have h := hom.out
              rw [List.take_length] at h
              rw [HS.out, hok.out, HV.out, h]
              rfl
            go_wp2_with fail
            go_round
            case rel => exact ⟨k + 1, by omega, by go_num, hnext⟩
            case measure => simp [intOf]; omega
    · obtain rfl : k = rs.length := by omega
      have hf : E = 0 := by
        have h := hok.out
        rw [List.take_length] at h
        rw [← HE.out, h]
        rfl
      subst hf
      go_wp2_with fail
      go_ret
      exact ⟨rfl, rfl⟩
end Go.Proofs.YtghpolfmhnnbaaaDoor
