/- Cut divisions, and sums that end at the bounds: plain laws. -/
import Derived.Test.YteafdihiigbifaaEng16
import Derived.Lib.Mul64
set_option linter.unusedSimpArgs false
set_option linter.unusedVariables false
namespace Go.Proofs.Yteafdihiigbifaa
open Go
theorem sbt {p : Prop} [Decidable p] (h : p) : some (LV.v (.bool true)) = some (LV.v (.bool (decide p))) := by rw [decide_eq_true h]
theorem sbf {p : Prop} [Decidable p] (h : ¬ p) : some (LV.v (.bool false)) = some (LV.v (.bool (decide p))) := by rw [decide_eq_false h]
theorem sbe {p q : Prop} [Decidable p] [Decidable q] (h : p ↔ q) : some (LV.v (.bool (decide p))) = some (LV.v (.bool (decide q))) := by rw [decide_eq_decide.2 h]
/-- An int. -/
def I64 (a : Int) : Prop := -9223372036854775808 ≤ a ∧ a ≤ 9223372036854775807
theorem tdq {a b : Int} (hb : b ≠ 0) (ha : I64 a) (hn : ¬ (a = -9223372036854775808 ∧ b = -1)) :
    a.tdiv b * b + a.tmod b = a ∧ (-9223372036854775808 ≤ a.tdiv b ∧ a.tdiv b ≤ 9223372036854775807) ∧ (0 ≤ a → 0 ≤ a.tmod b) ∧ (a ≤ 0 → a.tmod b ≤ 0) ∧ (a.tmod b ≠ 0 → -4611686018427387904 ≤ a.tdiv b ∧ a.tdiv b ≤ 4611686018427387904) := by
  unfold I64 at ha
  have h1 : a.tdiv b * b + a.tmod b = a := by rw [Int.mul_comm]; exact Int.mul_tdiv_add_tmod a b
  have h2 : 0 ≤ a → 0 ≤ a.tmod b := Int.tmod_nonneg b
  have h3 : a ≤ 0 → a.tmod b ≤ 0 := fun h => by
    have := Int.tmod_nonneg (a := -a) b (by omega)
    rw [Int.neg_tmod] at this; omega
  have h4 : (a.tdiv b).natAbs = a.natAbs / b.natAbs := Int.natAbs_tdiv a b
  refine ⟨h1, ?_, h2, h3, ?_⟩
  · by_cases e : b = -1
    · subst e; rw [Int.tdiv_neg, Int.tdiv_one]; omega
    · by_cases e1 : b = 1
      · subst e1; rw [Int.tdiv_one]; omega
      · have : a.natAbs / b.natAbs ≤ a.natAbs / 2 := Nat.div_le_div_left (by omega) (by omega)
        omega
  · intro hne
    by_cases e : b = -1
    · subst e; simp at hne
    · by_cases e1 : b = 1
      · subst e1; simp at hne
      · have : a.natAbs / b.natAbs ≤ a.natAbs / 2 := Nat.div_le_div_left (by omega) (by omega)
        omega
/-- A quotient that is cut downwards. -/
def flo (a b : Int) : Int := if a = -9223372036854775808 ∧ b = -1 then 9223372036854775807 else if (a.tmod b < 0 ∧ 0 < b) ∨ (0 < a.tmod b ∧ b < 0) then a.tdiv b - 1 else a.tdiv b
/-- A quotient that is cut upwards. -/
def cei (a b : Int) : Int := if a = -9223372036854775808 ∧ b = -1 then 9223372036854775807 else if (0 < a.tmod b ∧ 0 < b) ∨ (a.tmod b < 0 ∧ b < 0) then a.tdiv b + 1 else a.tdiv b
theorem flo_pos {a b : Int} (hb : 0 < b) : flo a b = a / b := by
  unfold flo
  rw [if_neg (by omega)]
  by_cases h : a.tmod b < 0
  · rw [if_pos (.inl ⟨h, hb⟩), (fl_neg hb h).1]
  · rw [if_neg (by omega), (fl_pos hb h).1]
theorem cei_pos {a b : Int} (hb : 0 < b) : cei a b = if a % b = 0 then a / b else a / b + 1 := by
  unfold cei
  rw [if_neg (by omega)]
  obtain ⟨t1, t2, t3⟩ := tq (a := a) hb
  by_cases h : a.tmod b < 0
  · obtain ⟨h1, h2⟩ := fl_neg hb h
    rw [if_neg (by omega), h1, h2, if_neg (by omega)]; omega
  · obtain ⟨h1, h2⟩ := fl_pos hb h
    rw [h1, h2]
    by_cases h0 : a.tmod b = 0
    · rw [if_neg (by omega), if_pos h0]
    · rw [if_pos (.inl ⟨by omega, hb⟩), if_neg h0]
/-- A number that ends at the bounds. -/
def sat (n : Int) : Int := if 9223372036854775807 < n then 9223372036854775807 else if n < -9223372036854775808 then -9223372036854775808 else n
theorem sat_in (n : Int) : I64 (sat n) := by unfold sat I64; split <;> (try split) <;> omega
theorem sat2 (x : Int) : sat (sat x + sat x) = sat (2 * x) := by unfold sat; split <;> split <;> (try split) <;> (try split) <;> omega
theorem satp {x a : Int} (h : (0 ≤ a ∧ 0 ≤ x) ∨ (a ≤ 0 ∧ x ≤ 0)) : sat (sat x + a) = sat (x + a) := by unfold sat; split <;> split <;> (try split) <;> (try split) <;> omega
theorem satm {x a : Int} (h : (0 ≤ a ∧ x ≤ 0) ∨ (a ≤ 0 ∧ 0 ≤ x)) : sat (sat x - a) = sat (x - a) := by unfold sat; split <;> split <;> (try split) <;> (try split) <;> omega
theorem sgn_mul (a m : Int) (hm : 0 ≤ m) : (0 ≤ a ∧ 0 ≤ a * m) ∨ (a ≤ 0 ∧ a * m ≤ 0) := by
  rcases Int.le_total 0 a with h | h
  · exact .inl ⟨h, Int.mul_nonneg h hm⟩
  · exact .inr ⟨h, Int.mul_nonpos_of_nonpos_of_nonneg h hm⟩
/-- One step of the reference's product, of a second factor that is not below 0. -/
theorem sat_bit (a m r : Int) (hm : 0 ≤ m) (hr : r = 0 ∨ r = 1) : (if r = 1 then sat (sat (sat (a * m) + sat (a * m)) + a) else sat (sat (a * m) + sat (a * m))) = sat (a * (2 * m + r)) := by
  rw [sat2]
  have e : a * (2 * m + r) = 2 * (a * m) + a * r := by rw [Int.mul_add, Int.mul_left_comm]
  have h := sgn_mul a m hm
  rcases hr with rfl | rfl
  · rw [if_neg (by omega), e]; simp
  · rw [if_pos rfl, satp (by omega), e]; simp
theorem sat_bitm (a m r : Int) (hm : 0 ≤ m) (hr : r = 0 ∨ r = 1) : (if r = 1 then sat (sat (sat (-(a * m)) + sat (-(a * m))) - a) else sat (sat (-(a * m)) + sat (-(a * m)))) = sat (-(a * (2 * m + r))) := by
  rw [sat2]
  have e : a * (2 * m + r) = 2 * (a * m) + a * r := by rw [Int.mul_add, Int.mul_left_comm]
  have h := sgn_mul a m hm
  rcases hr with rfl | rfl
  · rw [if_neg (by omega), e]; congr 1; simp; omega
  · rw [if_pos rfl, satm (by omega), e]; congr 1; simp; omega
/-- Amounts' product, with its sign. -/
theorem abs_mul (a b : Int) : a * b = if (a < 0) ≠ (b < 0) then -((a.natAbs * b.natAbs : Nat) : Int) else ((a.natAbs * b.natAbs : Nat) : Int) := by
  rw [← Int.natAbs_mul]
  have h1 := sgn_mul a b
  rcases Int.lt_trichotomy a 0 with ha | ha | ha <;> rcases Int.lt_trichotomy b 0 with hb | hb | hb
  · have := Int.mul_pos_of_neg_of_neg ha hb
    rw [if_neg (by simp [ha, hb])]; omega
  · subst hb; simp
  · have := Int.mul_neg_of_neg_of_pos ha hb
    rw [if_pos (by simp [ha]; omega)]; omega
  · subst ha; simp
  · subst ha; simp
  · subst ha; simp
  · have := Int.mul_neg_of_pos_of_neg ha hb
    rw [if_pos (by simp [hb]; omega)]; omega
  · subst hb; simp
  · have := Int.mul_pos ha hb
    rw [if_neg (by simp; omega)]; omega
/-- What goes from one number to another one. -/
theorem lerp_in {d t : Int} (h0 : 0 ≤ t) (h1 : t ≤ 65536) : (0 ≤ d → 0 ≤ d * t / 65536 ∧ d * t / 65536 ≤ d) ∧ (d ≤ 0 → d ≤ d * t / 65536 ∧ d * t / 65536 ≤ 0) := by
  constructor
  · intro h
    have := Int.mul_nonneg h h0
    have := Int.mul_le_mul_of_nonneg_left h1 h
    omega
  · intro h
    have := Int.mul_nonpos_of_nonpos_of_nonneg h h0
    have := Int.mul_le_mul_of_nonpos_left h h1
    omega
end Go.Proofs.Yteafdihiigbifaa
