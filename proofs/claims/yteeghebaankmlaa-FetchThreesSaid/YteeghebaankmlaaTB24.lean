/- The library's chunks of three: the iterator's contract. -/
import Derived.RangeFuncBox
import Derived.RangeFuncLeaves
import Derived.RangeFuncNested
import Derived.Shelf.Abstract
import Derived.WalkKit
import Derived.OwnWalkIn
import Derived.TacticsInMore
import Derived.LoopNIn
import Derived.LoopIn
import Derived.RegionTactic
import Derived.OrdersIn
import Derived.Test.YteeghebaankmlaaProg
set_option maxRecDepth 100000
set_option linter.unusedVariables false
set_option linter.unusedSimpArgs false
namespace Go.Proofs.Yteeghebaankmlaa
open Go Go.RowKit Go.Shelf
attribute [local go_sem] Oper.semAt_some
/-- The first k of m. -/
def fl (m k : Nat) : List (Fin m) := (List.finRange m).take k
theorem fl_len {m k : Nat} (h : k ≤ m) : (fl m k).length = k := by simp [fl, h]
theorem fl_succ {m k : Nat} (h : k < m) : fl m (k + 1) = fl m k ++ [⟨k, h⟩] := by
  unfold fl
  rw [List.take_add_one]
  simp [h]
/-- What a round keeps: the two variables that are captured. -/
def KpC (b1 b2 : Nat) (A B : World) : Prop := B.heap[b1]? = A.heap[b1]? ∧ B.heap[b2]? = A.heap[b2]?
theorem cell_same {A B : World} {b : Nat} (h : B.heap[b]? = A.heap[b]?) (o : Nat) : B.cell? ⟨b, o, none⟩ = A.cell? ⟨b, o, none⟩ := by
  unfold World.cell?
  rw [show B.heap[(⟨b, o, none⟩ : Addr).block]? = A.heap[b]? from h]
set_option maxHeartbeats 2000000 in
theorem chunk1_in (F : Fence) (n : Nat) (h20 : F.fn 20) (hro : F.round = none) (hn : 1 ≤ n) (l b1 b2 b off cap m : Nat) (hreach : m ≤ 1000000) (hcap : 3 * m ≤ cap) (J Jx : List (Fin m) → World → Prop)
    (hY : ∀ pre (x : Fin m) W, J pre W → pre.length < m → YieldAt F (n - 1) Try.prog l #[.slice (some ⟨b, off + 3 * x.1, none⟩) 3 3] W fun e W' =>
      (e = .returned (.bool true) ∧ J (pre ++ [x]) W' ∧ KpC b1 b2 W W') ∨ (e = .returned (.bool false) ∧ Jx (pre ++ [x]) W'))
    (W : World) (hB1 : W.cell? ⟨b1, 0, none⟩ = some (.slice (some ⟨b, off, none⟩) (3 * m) cap)) (hB2 : W.cell? ⟨b2, 0, none⟩ = some (.int .i64 3)) (h0 : J [] W) (hJd : ∀ pre W, J pre W → J pre W.drew) :
    CallsIn F n Try.prog 20 #[.func (.yield l) #[] #[], .pointer (some ⟨b1, 0, none⟩), .pointer (some ⟨b2, 0, none⟩)] W fun e W' => (∃ v, e = .returned v) ∧
      ((∃ ys : List (Fin m), ys = fl m m ∧ J ys W') ∨ (∃ pre, Jx pre W')) := by
  refine callsIn_of_wp Try.func20 rfl h20 ?_ hro
  simp only [Try.ntmps20, List.size_toArray, List.length_cons, List.length_nil, Nat.reduceAdd, Nat.reduceSub, Array.replicate_succ, Array.replicate_zero, List.push_toArray, List.append_toArray, List.nil_append, List.cons_append]
  gi_wp2
  gi_loopw [4] (fun i wr => ∃ k : Nat, k ≤ m ∧ i = .int .i64 ((3 * k : Nat) : Int) ∧ J (fl m k) wr ∧ KpC b1 b2 W wr)
    (fun i _ => 3 * m - (intOf i).toNat)
  case atStart => exact ⟨0, Nat.zero_le _, rfl, h0, rfl, rfl⟩
  case round =>
    obtain ⟨k, hk, rfl, hJs, hn1, hn2⟩ := hrel
    have c1 := (cell_same hn1 0).trans hB1
    have c2 := (cell_same hn2 0).trans hB2
    by_cases hlt : k < m
    · obtain ⟨fn, tmps, assign, body, hy, hR⟩ := hY _ ⟨k, hlt⟩ wr.drew (hJd _ _ hJs) (by rw [fl_len hk]; exact hlt)
      dsimp only at hy
      have hck : ¬ cap = 3 * k := by omega
      gi_wp2
      gi_region
      all_goals gi_wp2
      all_goals
        refine hR.mono ?_
        rintro e W3 (⟨rfl, hJ3, hk1, hk2⟩ | ⟨rfl, hJx3⟩)
        · have c3 := (cell_same hk2 0).trans c2
          gi_wp2
          refine ⟨⟨k + 1, by omega, by simp; omega, ?_, hk1.trans hn1, hk2.trans hn2⟩, ?_⟩
          · rw [fl_succ hlt]; exact hJ3
          · simp [intOf]; omega
        · gi_wp2
          refine bodyPost_ret (results_none rfl _ _ _) rfl ?_
          exact ⟨⟨_, rfl⟩, .inr ⟨_, hJx3⟩⟩
    · obtain rfl : k = m := by omega
      gi_wp2
      go_end0
      exact ⟨⟨_, rfl⟩, .inl ⟨_, rfl, hJs⟩⟩
set_option maxHeartbeats 1000000 in
/-- .. of no slice: no round. -/
theorem chunk1_nil (F : Fence) (n : Nat) (h20 : F.fn 20) (hro : F.round = none) (l b1 b2 : Nat) (J : World → Prop) (W : World) (hB1 : W.cell? ⟨b1, 0, none⟩ = some (.slice none 0 0)) (h0 : J W) :
    CallsIn F n Try.prog 20 #[.func (.yield l) #[] #[], .pointer (some ⟨b1, 0, none⟩), .pointer (some ⟨b2, 0, none⟩)] W fun e W' => (∃ v, e = .returned v) ∧ J W' := by
  refine callsIn_of_wp Try.func20 rfl h20 ?_ hro
  simp only [Try.ntmps20, List.size_toArray, List.length_cons, List.length_nil, Nat.reduceAdd, Nat.reduceSub, Array.replicate_succ, Array.replicate_zero, List.push_toArray, List.append_toArray, List.nil_append, List.cons_append]
  gi_wp2
  gi_loopw [4] (fun i wr => i = .int .i64 0 ∧ J wr ∧ wr.cell? ⟨b1, 0, none⟩ = some (.slice none 0 0)) (fun _ _ => 0)
  case atStart => exact ⟨rfl, h0, hB1⟩
  case round =>
    obtain ⟨rfl, hJs, hc⟩ := hrel
    gi_wp2
    go_end0
    exact ⟨⟨_, rfl⟩, hJs⟩
set_option maxHeartbeats 1000000 in
/-- Chunks of three: the slice and the three are boxed. -/
theorem chunk_in (F : Fence) (n : Nat) (h15 : F.fn 15) (hro : F.round = none) (a : Option Addr) (len cap : Nat) (w : World) :
    CallsIn F n Try.prog 15 #[.slice a len cap, .int .i64 3] w fun e w' => e = .returned (.func (.func 20) #[] #[.pointer (some ⟨w.heap.size, 0, none⟩), .pointer (some ⟨w.heap.size + 1, 0, none⟩)]) ∧ w' = (w.alloc (.cells #[.slice a len cap] 23)).alloc (.cells #[.int .i64 3] 3) := by
  refine callsIn_of_wp Try.func15 rfl h15 ?_ hro
  simp only [Try.ntmps15, List.size_toArray, List.length_cons, List.length_nil, Nat.reduceAdd, Nat.reduceSub, Array.replicate_succ, Array.replicate_zero, List.push_toArray, List.append_toArray, List.nil_append, List.cons_append]
  gi_wp2
  go_ret
  exact ⟨rfl, rfl⟩
theorem abides_drew {β : Type} {B : Nat} {J : β → World → Prop} (h : AbidesFrom B J) {s : β} {W : World} (hs : J s W) : J s W.drew := by
  exact h s W W.drew none hs ⟨rfl, rfl, rfl, Nat.le_refl _, fun _ _ _ => rfl⟩ (fun _ e => by cases e)
/-- The contract: each chunk in turn. -/
theorem chunk_stops (F : Fence) (n : Nat) (h20 : F.fn 20) (hro : F.round = none) (hn : 1 ≤ n) (b1 b2 m b off cap : Nat) (sv : Value) (hreach : m ≤ 1000000) (w : World) (h1 : b1 < w.heap.size) (h2 : b2 < w.heap.size)
    (hc1 : w.cell? ⟨b1, 0, none⟩ = some sv) (hc2 : w.cell? ⟨b2, 0, none⟩ = some (.int .i64 3)) (hs : (sv = .slice none 0 0 ∧ m = 0) ∨ (sv = .slice (some ⟨b, off, none⟩) (3 * m) cap ∧ 3 * m ≤ cap)) :
    SeqStopsK F n Try.prog 20 #[.pointer (some ⟨b1, 0, none⟩), .pointer (some ⟨b2, 0, none⟩)] (fun x : Fin m => #[Value.slice (some ⟨b, off + 3 * x.1, none⟩) 3 3]) (KpC b1 b2) (fun ys => ys = fl m m) (fun _ => True) m w := fun l J Jx W hW hJ hJx hY h0 => by
  have c1 := (hW.cell (p := ⟨b1, 0, none⟩) h1).trans hc1
  have c2 := (hW.cell (p := ⟨b2, 0, none⟩) h2).trans hc2
  rcases hs with ⟨rfl, rfl⟩ | ⟨rfl, k1⟩
  · refine (chunk1_nil F n h20 hro l b1 b2 (J []) W c1 h0).mono ?_
    rintro e W' ⟨he, hj⟩
    exact ⟨he, .inl ⟨_, rfl, hj⟩⟩
  · refine (chunk1_in F n h20 hro hn l b1 b2 b off cap m hreach k1 J Jx hY W c1 c2 h0 fun pre W h => abides_drew hJ h).mono ?_
    rintro e W' ⟨he, ⟨ys, rfl, hj⟩ | ⟨pre, hj⟩⟩
    · exact ⟨he, .inl ⟨_, rfl, hj⟩⟩
    · exact ⟨he, .inr ⟨_, trivial, hj⟩⟩
end Go.Proofs.Yteeghebaankmlaa
