/-
  Code words of joined bit strings. Plain lists.
-/
import Derived.Test.YtnklgppfggkeoaaDoorConvPlain
namespace Go.Proofs.YtnklgppfggkeoaaDoor.Conv

theorem flat_append (a b : List (Bool × Bool)) : flat (a ++ b) = flat a ++ flat b := by simp [flat]
theorem bitsOf_append (a b : List UInt8) : bitsOf (a ++ b) = bitsOf a ++ bitsOf b := by simp [bitsOf]
theorem code_take (a b : List UInt8) : (code (a ++ b)).take (2 * a.length) = flat (outs false false (bitsOf a)) := by
  unfold code
  rw [bitsOf_append, List.append_assoc, outs_append, flat_append]
  have h : (flat (outs false false (bitsOf a))).length = 2 * a.length := by rw [flat_length, outs_length]; simp [bitsOf]
  rw [← h, List.take_left]
theorem code_take_self (a : List UInt8) : (code a).take (2 * a.length) = flat (outs false false (bitsOf a)) := by
  have h := code_take a []
  rwa [List.append_nil] at h
theorem outs_zeros (k : Nat) : flat (outs false false (List.replicate k false)) = List.replicate (2 * k) 48 := by
  induction k with
  | zero => rfl
  | succ k ih =>
    rw [List.replicate_succ, outs, show 2 * (k + 1) = 2 * k + 1 + 1 by omega, List.replicate_succ, List.replicate_succ, ← ih]
    rfl
theorem after_zeros (p q : Bool) (l : List Bool) : after p q (l ++ [false, false]) = (false, false) := by
  rw [after_append]
  rfl
theorem bitsOf_zeros (k : Nat) : bitsOf (List.replicate k 48) = List.replicate k false := by
  unfold bitsOf
  rw [List.map_replicate]
  rfl
theorem zeros_comm (k : Nat) : List.replicate k false ++ [false, false] = [false, false] ++ List.replicate k false := by
  have e : [false, false] = List.replicate 2 false := rfl
  rw [e, List.replicate_append_replicate, List.replicate_append_replicate, Nat.add_comm]
theorem code_zeros (a : List UInt8) (k : Nat) : code (a ++ List.replicate k 48) = code a ++ List.replicate (2 * k) 48 := by
  unfold code
  rw [bitsOf_append, bitsOf_zeros, List.append_assoc, zeros_comm, ← List.append_assoc, outs_append, after_zeros, flat_append, outs_zeros]
theorem ok_append (a b : List UInt8) : ok (a ++ b) = (ok a && ok b) := by simp [ok]
theorem ok_zeros (k : Nat) : ok (List.replicate k 48) = true := by
  unfold ok
  rw [List.all_eq_true]
  intro c hc
  rw [(List.mem_replicate.1 hc).2]
  rfl
end Go.Proofs.YtnklgppfggkeoaaDoor.Conv
