/- Arithmetic of int. -/
import Derived.Test.YtjgnjpbplnmdmaaEng15
import Derived.Laws.BitsAllLaws
import Derived.Laws.BitsLemmas
import Derived.IntWalk
namespace Go.Proofs.Ytjgnjpbplnmdmaa
open Go

theorem ofInt_i64 (a : Nat) (ha : a < 9223372036854775808) : (BitVec.ofInt 64 (a : Int)).toNat = a := by
  rw [BitVec.ofInt_natCast, BitVec.toNat_ofNat]; exact Nat.mod_eq_of_lt (by omega)
theorem i64_and_nat (a b : Nat) (ha : a < 9223372036854775808) (hb : b < 9223372036854775808) : bits .and .i64 (a : Int) (b : Int) = ((a &&& b : Nat) : Int) := by
  have hx : a &&& b < 2 ^ 63 := Nat.and_lt_two_pow _ (by omega)
  show IntKind.i64.wrap ((BitVec.ofInt 64 (a : Int) &&& BitVec.ofInt 64 (b : Int)).toNat : Int) = _
  rw [BitVec.toNat_and, ofInt_i64 a ha, ofInt_i64 b hb, IntKind.wrap_i64]
  omega
theorem i64_or_nat (a b : Nat) (ha : a < 9223372036854775808) (hb : b < 9223372036854775808) : bits .or .i64 (a : Int) (b : Int) = ((a ||| b : Nat) : Int) := by
  have hx : a ||| b < 2 ^ 63 := Nat.or_lt_two_pow (by omega) (by omega)
  show IntKind.i64.wrap ((BitVec.ofInt 64 (a : Int) ||| BitVec.ofInt 64 (b : Int)).toNat : Int) = _
  rw [BitVec.toNat_or, ofInt_i64 a ha, ofInt_i64 b hb, IntKind.wrap_i64]
  omega
theorem i64_xor_nat (a b : Nat) (ha : a < 9223372036854775808) (hb : b < 9223372036854775808) : bits .xor .i64 (a : Int) (b : Int) = ((a ^^^ b : Nat) : Int) := by
  have hx : a ^^^ b < 2 ^ 63 := Nat.xor_lt_two_pow (by omega) (by omega)
  show IntKind.i64.wrap ((BitVec.ofInt 64 (a : Int) ^^^ BitVec.ofInt 64 (b : Int)).toNat : Int) = _
  rw [BitVec.toNat_xor, ofInt_i64 a ha, ofInt_i64 b hb, IntKind.wrap_i64]
  omega
/-- Bits that are apart: 'or' is a sum. -/
theorem i64_or_sum (a b : Int) (i m : Nat) (hm : m = 2 ^ i) (ha : 0 ≤ a) (hb : 0 ≤ b) (hbm : b < m) (h : a * m + b < 9223372036854775808) (hmm : m < 9223372036854775808) : bits .or .i64 (a * m) b = a * m + b := by
  obtain ⟨a, rfl⟩ := Int.eq_ofNat_of_zero_le ha
  obtain ⟨b, rfl⟩ := Int.eq_ofNat_of_zero_le hb
  have e : ((a : Int) * (m : Int)) = ((a * m : Nat) : Int) := by simp
  rw [e, i64_or_nat (a * m) b (by omega) (by omega)]
  subst hm
  rw [← Nat.shiftLeft_eq, ← Nat.shiftLeft_add_eq_or_of_lt (by omega)]
  simp
/-- 'and' with 2^i - 1 is what is left. -/
theorem i64_and_mod (a : Int) (i m : Nat) (hm : m + 1 = 2 ^ i) (ha : 0 ≤ a) (h : a < 9223372036854775808) (hmm : m < 9223372036854775808) : bits .and .i64 a m = a % (m + 1 : Nat) := by
  obtain ⟨a, rfl⟩ := Int.eq_ofNat_of_zero_le ha
  rw [i64_and_nat a m (by omega) hmm]
  have : m = 2 ^ i - 1 := by omega
  rw [this, Nat.and_two_pow_sub_one_eq_mod]
  have : 2 ^ i - 1 + 1 = 2 ^ i := by omega
  rw [this]; simp

theorem w64 (n : Int) (h1 : -9223372036854775808 ≤ n) (h2 : n ≤ 9223372036854775807) : IntKind.i64.wrap n = n := IntWalk.i64_in n ⟨h1, h2⟩
theorem mb64 (n : Nat) (h : n ≤ 64) : min n IntKind.i64.bits = n := Nat.min_eq_left h
theorem mbu64 (n : Nat) (h : n ≤ 64) : min n IntKind.u64.bits = n := Nat.min_eq_left h
theorem tdiv_pos {a b : Int} (h : 0 ≤ a) : a.tdiv b = a / b := Int.tdiv_eq_ediv_of_nonneg h
theorem tmod_pos {a b : Int} (h : 0 ≤ a) : a.tmod b = a % b := Int.tmod_eq_emod_of_nonneg h
theorem fdiv_pos {a b : Int} (h : 0 ≤ b) : a.fdiv b = a / b := Int.fdiv_eq_ediv_of_nonneg a h
/-- A law that answers true as a value. -/
theorem law_true {cal : Callee} {g : FuncId} {args : List LV} (h : evP cal g args = some (.v (.bool true))) : ∃ h', cal g args [] 0 = some (.v (.bool true), h') := by
  unfold evP at h
  split at h
  · rename_i r h' hr
    split at h
    · rename_i hc
      simp only [Option.some.injEq] at h
      refine ⟨h', ?_⟩
      rw [hr]
      cases r <;> simp only [frz] at h <;> first
        | (simp at h; done)
        | (simp at h; subst h; rfl)
        | (split at h <;> try (split at h)
           all_goals simp at h)
    · simp at h
  · simp at h
/-! ### rounds -/
def iterE (f : St → Option (Ex × St)) (cl : St → St) (n : Nat) (r : Ex × St) : Option (Ex × St) :=
  match r with
  | (.nrm, s) => iter f cl n s
  | (e, s) => some (e, s)
theorem iterE_nrm {f : St → Option (Ex × St)} {cl : St → St} {n : Nat} {s : St} : iterE f cl n (.nrm, s) = iter f cl n s := rfl
theorem iterE_ret {f : St → Option (Ex × St)} {cl : St → St} {n : Nat} {s : St} : iterE f cl n (.ret, s) = some (.ret, s) := rfl
theorem iterE_exit {f : St → Option (Ex × St)} {cl : St → St} {n i : Nat} {s : St} : iterE f cl n (.exit i, s) = some (.exit i, s) := rfl
theorem iter_s {f : St → Option (Ex × St)} {cl : St → St} {n : Nat} {s : St} : iter f cl (n + 1) s = (f (cl s)).bind (iterE f cl n) := by
  simp only [iter]
  cases f (cl s) with
  | none => rfl
  | some r => obtain ⟨e, s'⟩ := r; cases e <;> rfl
theorem clean_mk {fg : List Nat} {n lim : Nat} {t : List LV} {h : List Row} : clean fg n lim (t, h) = if lim = 0 ∧ n < h.length then (purgeL n (forget fg t), (h.take n).map fun r => ⟨r.ver, purgeL n r.cells⟩) else (forget fg t, h) := rfl
theorem clean_same {fg : List Nat} {n lim : Nat} {t : List LV} {h : List Row} (hn : h.length ≤ n) : clean fg n lim (t, h) = (forget fg t, h) := by
  rw [clean_mk, if_neg]; omega
theorem out_none {res : List MR} : outE none res = none := rfl
/-! ### cut divisions by a divisor that is above 0 -/
theorem tq {a b : Int} (hb : 0 < b) : b * a.tdiv b + a.tmod b = a ∧ -b < a.tmod b ∧ a.tmod b < b :=
  ⟨Int.mul_tdiv_add_tmod a b, Int.lt_tmod_of_pos a hb, Int.tmod_lt_of_pos a hb⟩
theorem fl_neg {a b : Int} (hb : 0 < b) (h : a.tmod b < 0) : a / b = a.tdiv b - 1 ∧ a % b = a.tmod b + b := by
  obtain ⟨h1, h2, h3⟩ := tq (a := a) hb
  refine (Int.ediv_emod_unique hb).2 ⟨?_, by omega, by omega⟩
  rw [Int.mul_sub]; omega
theorem fl_pos {a b : Int} (hb : 0 < b) (h : ¬ a.tmod b < 0) : a / b = a.tdiv b ∧ a % b = a.tmod b := by
  obtain ⟨h1, h2, h3⟩ := tq (a := a) hb
  refine (Int.ediv_emod_unique hb).2 ⟨by omega, by omega, by omega⟩
theorem tdiv_bound {a b M : Int} (hb : 0 < b) (h : -M ≤ a ∧ a ≤ M) : -M ≤ a.tdiv b ∧ a.tdiv b ≤ M := by
  rcases Int.le_total 0 a with ha | ha
  · rw [tdiv_pos ha]
    have h1 := Int.ediv_nonneg ha (Int.le_of_lt hb)
    have h2 := Int.ediv_le_self b ha
    omega
  · have e : a.tdiv b = -((-a) / b) := by
      rw [← tdiv_pos (by omega : 0 ≤ -a), Int.neg_tdiv]; simp
    rw [e]
    have h1 := Int.ediv_nonneg (by omega : 0 ≤ -a) (Int.le_of_lt hb)
    have h2 := Int.ediv_le_self b (by omega : 0 ≤ -a)
    omega
/-- What the reference reckons with: what is left of a cut division. -/
theorem sub_tdiv {a b : Int} (hb : 0 < b) (h : -4611686018427387904 ≤ a ∧ a ≤ 4611686018427387904) (hbb : b ≤ 4611686018427387904) : IntKind.i64.wrap (a.tdiv b) = a.tdiv b ∧ IntKind.i64.wrap (a - IntKind.i64.wrap (a.tdiv b * b)) = a.tmod b := by
  have h0 := tdiv_bound hb h
  obtain ⟨h1, h2, h3⟩ := tq (a := a) hb
  rw [Int.mul_comm] at h1
  refine ⟨w64 _ (by omega) (by omega), ?_⟩
  rw [w64 (a.tdiv b * b) (by omega) (by omega), w64 _ (by omega) (by omega)]
  omega
theorem sub_ediv {n d : Int} (hd : 0 < d) (hdd : d ≤ 1000000000000) (h : -1000000000000 ≤ n ∧ n ≤ 1000000000000) : IntKind.i64.wrap (n - IntKind.i64.wrap (d * (n / d))) = n % d := by
  have h1 := Int.emod_nonneg n (by omega : d ≠ 0)
  have h2 := Int.emod_lt_of_pos n hd
  have h3 := Int.mul_ediv_add_emod n d
  rw [w64 (d * (n / d)) (by omega) (by omega), w64 _ (by omega) (by omega)]
  omega
/-- A loop that goes on N times and leaves by an exit. -/
theorem iter_count {f : St → Option (Ex × St)} {cl : St → St} {S : Nat → St → Prop} {R : St → Prop} {N e : Nat} (step : ∀ i s, i < N → S i s → ∃ s', f (cl s) = some (.nrm, s') ∧ S (i + 1) s') (last : ∀ s, S N s → ∃ s', f (cl s) = some (.exit e, s') ∧ R s') :
    ∀ (d i : Nat) (s : St) (n : Nat), i + d = N → d < n → S i s → ∃ s', iter f cl n s = some (.exit e, s') ∧ R s'
  | 0, i, s, n + 1, hi, _, hs => by
    obtain rfl : i = N := by omega
    obtain ⟨s', h1, h2⟩ := last s hs
    exact ⟨s', by simp only [iter, h1], h2⟩
  | d + 1, i, s, n + 1, hi, hn, hs => by
    obtain ⟨s', h1, h2⟩ := step i s (by omega) hs
    obtain ⟨s'', h3, h4⟩ := iter_count step last d (i + 1) s' n (by omega) (by omega) h2
    exact ⟨s'', by simp only [iter, h1]; exact h3, h4⟩
theorem mul_bound {m v : Int} {A B : Nat} (h : -(A : Int) ≤ m ∧ m ≤ A) (h' : -(B : Int) ≤ v ∧ v ≤ B) : -((A * B : Nat) : Int) ≤ m * v ∧ m * v ≤ ((A * B : Nat) : Int) := by
  have h1 : m.natAbs ≤ A := by omega
  have h2 : v.natAbs ≤ B := by omega
  have h3 : (m * v).natAbs ≤ A * B := by rw [Int.natAbs_mul]; exact Nat.mul_le_mul h1 h2
  omega
end Go.Proofs.Ytjgnjpbplnmdmaa
