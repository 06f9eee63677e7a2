/- A ring's operations, done one behind the other, do what the document says. The plain law. -/
import Derived.Test.YtcmlnjkbdlakfaaRQ
set_option linter.unusedSimpArgs false
set_option linter.unusedVariables false
namespace Go.Proofs.Ytcmlnjkbdlakfaa
theorem small_0 : small 0 := by unfold small; omega
theorem small_n1 : small (-1) := by unfold small; omega
/-- A ring at rest. -/
structure RInv (M : AM) (R : RG) (T : Int) (L : Nat → Int) (stp : Bool) : Prop where
  head : M.av R.a = R.head
  tail : M.av (R.a + 1) = T
  stop : M.av (R.a + 2) = if stp then 1 else 0
  left : ∀ i, i < R.k → M.av (R.a + 3 + i) = L i
  lo : M.lo R.l = -1
  sm : ∀ i, small (M.av i)
  k0 : 0 < R.k
  hd : R.head ≤ 1000 ∧ R.dealt ≤ 1000
theorem RInv.cast {M M' : AM} {R : RG} {T : Int} {L : Nat → Int} {stp : Bool} (H : RInv M R T L stp) (h : M'.av = M.av) (hl : M'.lo R.l = -1) : RInv M' R T L stp :=
  ⟨by rw [h]; exact H.head, by rw [h]; exact H.tail, by rw [h]; exact H.stop, fun i hi => by rw [h]; exact H.left i hi, hl, fun i => by rw [h]; exact H.sm i, H.k0, H.hd⟩
theorem load_av (M : AM) (t a : Nat) : (M.load t a).av = M.av := rfl
theorem store_av (M : AM) (t a : Nat) (x : Int) : (M.store t a x).av = upd M.av a x := rfl
theorem add_av (M : AM) (t a : Nat) (x : Int) : (M.add t a x).av = upd M.av a x := rfl
theorem access_av (M : AM) (t a : Nat) (w : Bool) : (M.access t a w).av = M.av := rfl
theorem unlock_av (M : AM) (t a : Nat) : (M.unlock t a).av = M.av := rfl
theorem lock_av (M : AM) (t a : Nat) : (M.lock t a).av = M.av := by unfold AM.lock; split <;> rfl
theorem load_lo (M : AM) (t a : Nat) : (M.load t a).lo = M.lo := rfl
theorem store_lo (M : AM) (t a : Nat) (x : Int) : (M.store t a x).lo = M.lo := rfl
theorem add_lo (M : AM) (t a : Nat) (x : Int) : (M.add t a x).lo = M.lo := rfl
theorem access_lo (M : AM) (t a : Nat) (w : Bool) : (M.access t a w).lo = M.lo := rfl
theorem unlock_lo (M : AM) (t a : Nat) : (M.unlock t a).lo = upd M.lo a (-1) := rfl
theorem lock_lo {M : AM} {t a : Nat} (h : M.lo a = -1) : (M.lock t a).lo = upd M.lo a t := by unfold AM.lock; rw [if_pos h]
theorem fitsI {M : AM} {R : RG} {o : RO} {t : Nat} (hM : ∀ i, small (M.av i)) (hn : small o.n) (hR : R.head ≤ 1001 ∧ R.dealt ≤ 1001) (hp : o.pc ≤ 6) (hu : o.kd = .claim → o.pc = 6 → M.lo R.l = t) : FitsR ⟨M, R, o⟩ t :=
  ⟨hn, hM, by dsimp only; omega, by dsimp only; omega, hp, hu⟩
section
variable {M : AM} {R : RG} {T : Int} {L : Nat → Int} {stp : Bool} (t : Nat)
theorem publish_full (x : Int) (hx : small x) (H : RInv M R T L stp) (hf : (R.k : Int) ≤ (R.head : Int) - T) : ∀ m, ∃ M', RunsR t ⟨M, R, .new .publish 0 x⟩ m ⟨M', R, .new .publish 0 x⟩ ∧ RInv M' R T L stp := by
  intro m
  induction m generalizing M with
  | zero => exact ⟨M, .nil _, H⟩
  | succ m ih =>
    obtain ⟨M', h1, h2⟩ := ih (M := M.load t (R.a + 1)) (H.cast rfl H.lo)
    exact ⟨M', .step (fitsI H.sm small_0 (by have := H.hd; omega) (by simp [RO.new]) (by simp [RO.new])) rfl (by simp [stepR, RO.new, H.tail, hf]) h1, h2⟩
theorem upd_small {f : Nat → Int} {a : Nat} {x : Int} (hf : ∀ i, small (f i)) (hx : small x) : ∀ i, small (upd f a x i) := by
  intro i; unfold upd; split
  · exact hx
  · exact hf i
theorem publish_fine (x : Int) (hx : small x) (H : RInv M R T L stp) (hf : ¬ (R.k : Int) ≤ (R.head : Int) - T) (hh : R.head ≤ 900) :
    ∃ M', RunsR t ⟨M, R, .new .publish 0 x⟩ 4 ⟨M', { R with head := R.head + 1 }, ⟨.publish, 3, 1, 0, 0, x, R.head⟩⟩ ∧ RInv M' { R with head := R.head + 1 } T (upd L (sl R.k R.head) x) stp := by
  have hd := H.hd
  have hs := sl_lt H.k0 R.head
  have s1 := upd_small (a := R.a + 3 + sl R.k R.head) H.sm hx
  have s2 := upd_small (a := R.a) (x := (R.head : Int) + 1) s1 (by unfold small; omega)
  refine ⟨_, .step (s1 := ⟨M.load t (R.a + 1), R, ⟨.publish, 1, 0, 0, 0, x, -1⟩⟩) (fitsI H.sm small_0 (by omega) (by simp [RO.new]) (by simp [RO.new])) rfl (by simp [stepR, RO.new, H.tail, hf])
    (.step (s1 := ⟨(M.load t (R.a + 1)).access t (R.c + 1 + sl R.k R.head) true, R, ⟨.publish, 2, 0, 0, 0, x, -1⟩⟩) (fitsI H.sm small_0 (by omega) (by simp) (by simp)) rfl (by simp [stepR])
    (.step (s1 := ⟨((M.load t (R.a + 1)).access t (R.c + 1 + sl R.k R.head) true).store t (R.a + 3 + sl R.k R.head) x, R, ⟨.publish, 3, 0, 0, 0, x, -1⟩⟩) (fitsI H.sm small_0 (by omega) (by simp) (by simp)) rfl (by simp [stepR])
    (.step (s1 := ⟨(((M.load t (R.a + 1)).access t (R.c + 1 + sl R.k R.head) true).store t (R.a + 3 + sl R.k R.head) x).store t R.a (R.head + 1), _, _⟩) (fitsI s1 small_0 (by omega) (by simp) (by simp)) rfl (by simp [stepR]) (.nil _)))), ?_⟩
  refine ⟨?_, ?_, ?_, fun i hi => ?_, H.lo, s2, H.k0, by dsimp only; omega⟩
  · simp only [store_av, upd_same]; push_cast; rfl
  · simp only [store_av, access_av, load_av]
    rw [upd_ne _ _ (by omega), upd_ne _ _ (by omega)]; exact H.tail
  · simp only [store_av, access_av, load_av]
    rw [upd_ne _ _ (by omega), upd_ne _ _ (by omega)]; exact H.stop
  · simp only [store_av, access_av, load_av]
    rw [upd_ne _ _ (by omega)]
    by_cases hi2 : i = sl R.k R.head
    · subst hi2; rw [upd_same, upd_same]
    · rw [upd_ne _ _ (by omega), upd_ne _ _ hi2]; exact H.left i hi
theorem claim_none (H : RInv M R T L stp) (hf : (R.head : Int) ≤ T) :
    ∃ M', RunsR t ⟨M, R, .new .claim 0 0⟩ 3 ⟨M', R, ⟨.claim, 2, if stp then 3 else 2, T, R.head, 0, -1⟩⟩ ∧ RInv M' R T L stp := by
  have hd := H.hd
  have hsT : small T := by have := H.sm (R.a + 1); rw [H.tail] at this; exact this
  refine ⟨_, .step (s1 := ⟨M.load t (R.a + 1), R, ⟨.claim, 1, 0, T, 0, 0, -1⟩⟩) (fitsI H.sm small_0 (by omega) (by simp [RO.new]) (by simp [RO.new])) rfl (by simp [stepR, RO.new, H.tail])
    (.step (s1 := ⟨(M.load t (R.a + 1)).load t R.a, R, ⟨.claim, 2, 0, T, R.head, 0, -1⟩⟩) (fitsI H.sm hsT (by omega) (by simp) (by simp)) rfl (by simp [stepR, load_av, H.head])
    (.step (s1 := ⟨((M.load t (R.a + 1)).load t R.a).load t (R.a + 2), R, ⟨.claim, 2, if stp then 3 else 2, T, R.head, 0, -1⟩⟩) (fitsI H.sm hsT (by omega) (by simp) (by simp)) rfl (by simp [stepR, load_av, hf, H.stop]; cases stp <;> simp) (.nil _))), H.cast rfl H.lo⟩
theorem claim_busy (H : RInv M R T L stp) (hf : ¬ (R.head : Int) ≤ T) (hD : ¬ (R.dealt : Int) = T) :
    ∃ M', RunsR t ⟨M, R, .new .claim 0 0⟩ 5 ⟨M', R, ⟨.claim, 6, 2, -1, R.head, 0, -1⟩⟩ ∧ RInv M' R T L stp := by
  have hd := H.hd
  have hsT : small T := by have := H.sm (R.a + 1); rw [H.tail] at this; exact this
  have hlo : ((M.load t (R.a + 1)).load t R.a).lo R.l = -1 := H.lo
  have sm3 : ∀ i, small ((((M.load t (R.a + 1)).load t R.a).lock t R.l).av i) := fun i => by rw [lock_av]; exact H.sm i
  refine ⟨_, .step (s1 := ⟨M.load t (R.a + 1), R, ⟨.claim, 1, 0, T, 0, 0, -1⟩⟩) (fitsI H.sm small_0 (by omega) (by simp [RO.new]) (by simp [RO.new])) rfl (by simp [stepR, RO.new, H.tail])
    (.step (s1 := ⟨(M.load t (R.a + 1)).load t R.a, R, ⟨.claim, 2, 0, T, R.head, 0, -1⟩⟩) (fitsI H.sm hsT (by omega) (by simp) (by simp)) rfl (by simp [stepR, load_av, H.head])
    (.step (s1 := ⟨((M.load t (R.a + 1)).load t R.a).lock t R.l, R, ⟨.claim, 3, 0, T, R.head, 0, -1⟩⟩) (fitsI H.sm hsT (by omega) (by simp) (by simp)) rfl (by simp [stepR, hf, hlo])
    (.step (s1 := ⟨(((M.load t (R.a + 1)).load t R.a).lock t R.l).access t R.c false, R, ⟨.claim, 6, 0, -1, R.head, 0, -1⟩⟩) (fitsI sm3 hsT (by omega) (by simp) (by simp)) rfl (by simp [stepR, hD])
    (.step (s1 := ⟨((((M.load t (R.a + 1)).load t R.a).lock t R.l).access t R.c false).unlock t R.l, R, ⟨.claim, 6, 2, -1, R.head, 0, -1⟩⟩) (fitsI sm3 small_n1 (by omega) (by simp) (fun _ _ => by rw [access_lo, lock_lo hlo, upd_same])) rfl (by simp [stepR]) (.nil _))))), H.cast ?_ ?_⟩
  · rw [unlock_av, access_av, lock_av]; rfl
  · rw [unlock_lo, upd_same]
theorem claim_fine (H : RInv M R T L stp) (hf : ¬ (R.head : Int) ≤ T) (hD : (R.dealt : Int) = T) :
    ∃ M', RunsR t ⟨M, R, .new .claim 0 0⟩ 7 ⟨M', { R with dealt := R.dealt + 1 }, ⟨.claim, 6, 1, T, R.head, 0, T⟩⟩ ∧ RInv M' { R with dealt := R.dealt + 1 } T L stp := by
  have hd := H.hd
  have hsT : small T := by have := H.sm (R.a + 1); rw [H.tail] at this; exact this
  have hT1 : ¬ T = -1 := by omega
  have hlo : ((M.load t (R.a + 1)).load t R.a).lo R.l = -1 := H.lo
  have sm3 : ∀ i, small ((((M.load t (R.a + 1)).load t R.a).lock t R.l).av i) := fun i => by rw [lock_av]; exact H.sm i
  refine ⟨_, .step (s1 := ⟨M.load t (R.a + 1), R, ⟨.claim, 1, 0, T, 0, 0, -1⟩⟩) (fitsI H.sm small_0 (by omega) (by simp [RO.new]) (by simp [RO.new])) rfl (by simp [stepR, RO.new, H.tail])
    (.step (s1 := ⟨(M.load t (R.a + 1)).load t R.a, R, ⟨.claim, 2, 0, T, R.head, 0, -1⟩⟩) (fitsI H.sm hsT (by omega) (by simp) (by simp)) rfl (by simp [stepR, load_av, H.head])
    (.step (s1 := ⟨((M.load t (R.a + 1)).load t R.a).lock t R.l, R, ⟨.claim, 3, 0, T, R.head, 0, -1⟩⟩) (fitsI H.sm hsT (by omega) (by simp) (by simp)) rfl (by simp [stepR, hf, hlo])
    (.step (s1 := ⟨(((M.load t (R.a + 1)).load t R.a).lock t R.l).access t R.c false, R, ⟨.claim, 4, 0, T, R.head, 0, -1⟩⟩) (fitsI sm3 hsT (by omega) (by simp) (by simp)) rfl (by simp [stepR, hD])
    (.step (s1 := ⟨((((M.load t (R.a + 1)).load t R.a).lock t R.l).access t R.c false).access t R.c true, { R with dealt := R.dealt + 1 }, ⟨.claim, 5, 0, T, R.head, 0, -1⟩⟩) (fitsI sm3 hsT (by omega) (by simp) (by simp)) rfl (by simp [stepR])
    (.step (s1 := ⟨(((((M.load t (R.a + 1)).load t R.a).lock t R.l).access t R.c false).access t R.c true).access t (R.c + 1 + sl R.k T) false, { R with dealt := R.dealt + 1 }, ⟨.claim, 6, 0, T, R.head, 0, -1⟩⟩) (fitsI sm3 hsT (by dsimp only; omega) (by simp) (by simp)) rfl (by simp [stepR])
    (.step (s1 := ⟨((((((M.load t (R.a + 1)).load t R.a).lock t R.l).access t R.c false).access t R.c true).access t (R.c + 1 + sl R.k T) false).unlock t R.l, { R with dealt := R.dealt + 1 }, ⟨.claim, 6, 1, T, R.head, 0, T⟩⟩) (fitsI sm3 hsT (by dsimp only; omega) (by simp) (fun _ _ => by rw [access_lo, access_lo, access_lo]; dsimp only; rw [lock_lo hlo, upd_same])) rfl (by simp [stepR, hT1]) (.nil _))))))), ?_⟩
  have H2 : RInv (((((((M.load t (R.a + 1)).load t R.a).lock t R.l).access t R.c false).access t R.c true).access t (R.c + 1 + sl R.k T) false).unlock t R.l) R T L stp := H.cast (by rw [unlock_av, access_av, access_av, access_av, lock_av]; rfl) (by rw [unlock_lo, upd_same])
  exact ⟨H2.head, H2.tail, H2.stop, H2.left, H2.lo, H2.sm, H2.k0, by
    have : (R.head : Int) ≤ 1000 := by omega
    have : (R.dealt : Int) < 1000 := by omega
    dsimp only; omega⟩
theorem finish_on (n : Int) (hn : small n) (H : RInv M R T L stp) (hs : ∀ i, -100000 ≤ L i ∧ L i ≤ 100000) (hf : ¬ L (sl R.k n) = 1) :
    ∃ M', RunsR t ⟨M, R, .new .finish n 0⟩ 1 ⟨M', R, ⟨.finish, 0, 2, n, 0, 0, -1⟩⟩ ∧ RInv M' R T (upd L (sl R.k n) (L (sl R.k n) - 1)) stp := by
  have hd := H.hd
  have hs0 := sl_lt H.k0 n
  have hl := H.left _ hs0
  have hsm := hs (sl R.k n)
  refine ⟨_, .step (s1 := ⟨M.add t (R.a + 3 + sl R.k n) (L (sl R.k n) - 1), R, ⟨.finish, 0, 2, n, 0, 0, -1⟩⟩) (fitsI H.sm hn (by omega) (by simp [RO.new]) (by simp [RO.new])) rfl (by simp [stepR, RO.new, hl, hf]) (.nil _), ?_⟩
  refine ⟨?_, ?_, ?_, fun i hi => ?_, H.lo, upd_small H.sm (by unfold small; omega), H.k0, H.hd⟩
  · rw [add_av, upd_ne _ _ (by omega)]; exact H.head
  · rw [add_av, upd_ne _ _ (by omega)]; exact H.tail
  · rw [add_av, upd_ne _ _ (by omega)]; exact H.stop
  · rw [add_av]
    by_cases hi2 : i = sl R.k n
    · subst hi2; rw [upd_same, upd_same]
    · rw [upd_ne _ _ (by omega), upd_ne _ _ hi2]; exact H.left i hi
theorem finish_done (n : Int) (hn : -1000 ≤ n ∧ n ≤ 1000) (H : RInv M R T L stp) (hf : L (sl R.k n) = 1) :
    ∃ M', RunsR t ⟨M, R, .new .finish n 0⟩ 2 ⟨M', R, ⟨.finish, 1, 1, n, 0, 0, -1⟩⟩ ∧ RInv M' R (n + 1) (upd L (sl R.k n) (L (sl R.k n) - 1)) stp := by
  have hd := H.hd
  have hs0 := sl_lt H.k0 n
  have hl := H.left _ hs0
  rw [hf] at hl
  have hn' : small n := by unfold small; omega
  have s1 := upd_small (a := R.a + 3 + sl R.k n) (x := 0) H.sm small_0
  have s2 := upd_small (a := R.a + 1) (x := n + 1) s1 (by unfold small; omega)
  rw [hf]
  refine ⟨_, .step (s1 := ⟨M.add t (R.a + 3 + sl R.k n) 0, R, ⟨.finish, 1, 0, n, 0, 0, -1⟩⟩) (fitsI H.sm hn' (by omega) (by simp [RO.new]) (by simp [RO.new])) rfl (by simp [stepR, RO.new, hl])
    (.step (s1 := ⟨(M.add t (R.a + 3 + sl R.k n) 0).store t (R.a + 1) (n + 1), R, ⟨.finish, 1, 1, n, 0, 0, -1⟩⟩) (fitsI s1 hn' (by omega) (by simp) (by simp)) rfl (by simp [stepR]) (.nil _)), ?_⟩
  refine ⟨?_, ?_, ?_, fun i hi => ?_, H.lo, s2, H.k0, H.hd⟩
  · rw [store_av, add_av, upd_ne _ _ (by omega), upd_ne _ _ (by omega)]; exact H.head
  · rw [store_av, upd_same]
  · rw [store_av, add_av, upd_ne _ _ (by omega), upd_ne _ _ (by omega)]; exact H.stop
  · rw [store_av, add_av, upd_ne _ _ (by omega)]
    by_cases hi2 : i = sl R.k n
    · subst hi2; rw [upd_same, upd_same]; omega
    · rw [upd_ne _ _ (by omega), upd_ne _ _ hi2]; exact H.left i hi
theorem await_ok1 (H : RInv M R T L stp) :
    ∃ M', RunsR t ⟨M, R, .new .await T 0⟩ 1 ⟨M', R, ⟨.await, 0, 1, T, 0, 0, -1⟩⟩ ∧ RInv M' R T L stp := by
  have hd := H.hd
  have hsT : small T := by have := H.sm (R.a + 1); rw [H.tail] at this; exact this
  refine ⟨_, .step (s1 := ⟨M.load t (R.a + 1), R, ⟨.await, 0, 1, T, 0, 0, -1⟩⟩) (fitsI H.sm hsT (by omega) (by simp [RO.new]) (by simp [RO.new])) rfl (by simp [stepR, RO.new, H.tail]) (.nil _), H.cast rfl H.lo⟩
theorem stop_ok1 (H : RInv M R T L stp) :
    ∃ M', RunsR t ⟨M, R, .new .stop 0 0⟩ 1 ⟨M', R, ⟨.stop, 0, 1, 0, 0, 0, -1⟩⟩ ∧ RInv M' R T L true := by
  have hd := H.hd
  refine ⟨_, .step (s1 := ⟨M.store t (R.a + 2) 1, R, ⟨.stop, 0, 1, 0, 0, 0, -1⟩⟩) (fitsI H.sm small_0 (by omega) (by simp [RO.new]) (by simp [RO.new])) rfl (by simp [stepR, RO.new]) (.nil _), ?_⟩
  refine ⟨?_, ?_, ?_, fun i hi => ?_, H.lo, upd_small H.sm (by unfold small; omega), H.k0, H.hd⟩
  · rw [store_av, upd_ne _ _ (by omega)]; exact H.head
  · rw [store_av, upd_ne _ _ (by omega)]; exact H.tail
  · rw [store_av, upd_same]; rfl
  · rw [store_av, upd_ne _ _ (by omega)]; exact H.left i hi
end
end Go.Proofs.Ytcmlnjkbdlakfaa
