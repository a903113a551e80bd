/- Division bit by bit. Conditions: none. -/
import Derived.Test.YthmlkdflhnjhcaaE7
set_option linter.unusedVariables false
namespace Go.Eng
theorem half_pow (V i : Nat) : V / 2 ^ (i + 1) = (V / 2 ^ i) / 2 := by
  rw [Nat.div_div_eq_div_mul, Nat.pow_succ]
theorem divStep (V d i : Nat) (hd : 0 < d) :
    (V / 2 ^ i) / d = 2 * ((V / 2 ^ (i + 1)) / d) + (if d ≤ 2 * ((V / 2 ^ (i + 1)) % d) + (V / 2 ^ i) % 2 then 1 else 0) ∧
    (V / 2 ^ i) % d = (if d ≤ 2 * ((V / 2 ^ (i + 1)) % d) + (V / 2 ^ i) % 2 then 2 * ((V / 2 ^ (i + 1)) % d) + (V / 2 ^ i) % 2 - d else 2 * ((V / 2 ^ (i + 1)) % d) + (V / 2 ^ i) % 2) := by
  rw [half_pow]
  generalize V / 2 ^ i = W
  have e : W = 2 * (W / 2) + W % 2 := by omega
  have hb : W % 2 < 2 := Nat.mod_lt _ (by omega)
  generalize hA : W / 2 = A at *
  generalize W % 2 = b at *
  have eA := Nat.div_add_mod A d
  have hr := Nat.mod_lt A hd
  generalize A / d = q at *
  generalize A % d = r at *
  have key : W = d * (2 * q) + (2 * r + b) := by rw [e, ← eA, Nat.mul_left_comm]; omega
  have uniq : ∀ Q R, W = d * Q + R → R < d → W / d = Q ∧ W % d = R := fun Q R h hR => by
    rw [h]
    exact ⟨by rw [Nat.mul_add_div hd, Nat.div_eq_of_lt hR]; rfl, by rw [Nat.mul_add_mod]; exact Nat.mod_eq_of_lt hR⟩
  split
  · rename_i h
    have := uniq (2 * q + 1) (2 * r + b - d) (by rw [key, Nat.mul_add]; omega) (by omega)
    exact ⟨this.1, this.2⟩
  · rename_i h
    have := uniq (2 * q) (2 * r + b) key (by omega)
    exact ⟨by rw [this.1]; rfl, this.2⟩
end Go.Eng
