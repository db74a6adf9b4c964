/-
  The convolutional code of layer 9, on lists of truth values. No program in sight.
-/
namespace Go.Proofs.YtnklgppfggkeoaaDoor.Conv

/-- The character of a bit. -/
def ch (b : Bool) : UInt8 := if b then 49 else 48
def tb (c : UInt8) : Bool := c == 49
def isBit (c : UInt8) : Bool := c == 48 || c == 49
def ok (l : List UInt8) : Bool := l.all isBit
/-- The outputs from the state (p, q): p is the bit before, q the one before that. -/
def outs (p q : Bool) : List Bool → List (Bool × Bool)
  | [] => []
  | u :: l => ((u ^^ p) ^^ q, u ^^ q) :: outs u p l
def flat (l : List (Bool × Bool)) : List UInt8 := l.flatMap fun x => [ch x.1, ch x.2]
def bitsOf (s : List UInt8) : List Bool := s.map tb
/-- The code word. -/
def code (s : List UInt8) : List UInt8 := flat (outs false false (bitsOf s ++ [false, false]))
/-- A state as a number. -/
def st (p q : Bool) : Nat := (if p then 2 else 0) + (if q then 1 else 0)
def bn (u : Bool) : Nat := if u then 1 else 0

theorem outs_length (p q : Bool) (l : List Bool) : (outs p q l).length = l.length := by
  induction l generalizing p q with
  | nil => rfl
  | cons u l ih => simp [outs, ih]
theorem flat_length (l : List (Bool × Bool)) : (flat l).length = 2 * l.length := by
  induction l with
  | nil => rfl
  | cons x l ih =>
    have : (flat (x :: l)).length = 2 + (flat l).length := by simp [flat]; omega
    rw [this, ih, List.length_cons]
    omega
theorem flat_snoc (l : List (Bool × Bool)) (x : Bool × Bool) : flat (l ++ [x]) = flat l ++ [ch x.1, ch x.2] := by simp [flat]
theorem code_length (s : List UInt8) : (code s).length = 2 * s.length + 4 := by
  rw [code, flat_length, outs_length]
  simp [bitsOf]
  omega
theorem ch_tb {c : UInt8} (h : isBit c = true) : ch (tb c) = c := by
  unfold isBit at h
  rw [Bool.or_eq_true] at h
  rcases h with h | h
  · rw [beq_iff_eq] at h; subst h; rfl
  · rw [beq_iff_eq] at h; subst h; rfl
theorem tb_ch (b : Bool) : tb (ch b) = b := by cases b <;> rfl
theorem toNat_bit {c : UInt8} (h : isBit c = true) : c.toNat = 48 + bn (tb c) := by
  have e := ch_tb h
  rw [← e]
  cases tb c <;> rfl
/-- The state after some bits. -/
def after (p q : Bool) : List Bool → Bool × Bool
  | [] => (p, q)
  | u :: l => after u p l
theorem outs_append (p q : Bool) (a b : List Bool) : outs p q (a ++ b) = outs p q a ++ outs (after p q a).1 (after p q a).2 b := by
  induction a generalizing p q with
  | nil => rfl
  | cons u a ih => rw [List.cons_append, outs, outs, ih]; rfl
theorem after_append (p q : Bool) (a b : List Bool) : after p q (a ++ b) = after (after p q a).1 (after p q a).2 b := by
  induction a generalizing p q with
  | nil => rfl
  | cons u a ih => rw [List.cons_append, after, ih]; rfl
end Go.Proofs.YtnklgppfggkeoaaDoor.Conv
