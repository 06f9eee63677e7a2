/- Vertices, three by three: the answer is right; what is awake. -/
import Derived.Test.YteeghebaankmlaaIT24
set_option linter.unusedSimpArgs false
set_option linter.unusedVariables false
set_option maxRecDepth 100000
set_option maxHeartbeats 4000000
namespace Go.Proofs.Yteeghebaankmlaa
open Go Go.RowKit
theorem v9_int (vl : List Int) (n : Nat) : ∀ e ∈ V9 vl n, ∃ z, e = .i z := by
  intro e he
  simp only [V9, List.mem_cons, List.not_mem_nil, or_false] at he
  rcases he with rfl | rfl | rfl | rfl | rfl | rfl | rfl | rfl | rfl <;> exact ⟨_, rfl⟩
theorem cells_int (vl : List Int) (g : Nat → Int) (m : Nat) : ∀ e ∈ cellsM vl g m, ∃ z, e = .i z := by
  intro e he
  simp only [cellsM, tri, List.mem_flatMap, List.mem_append] at he
  obtain ⟨k, _, (he | he) | he⟩ := he <;> exact v9_int _ _ e he
theorem vin_of {e n : Nat} {l : List Int} {V : LV} {C : Cx} {u : Value} (h : slD e V = some (n, l)) (hc : Conc C V u) : SlE e n l V ∧ ∃ av cv, u = .slice av n cv ∧ VIn C.w V l n cv av := by
  obtain ⟨hs, hv⟩ := slD_inv h hc
  rcases hv with ⟨rfl, rfl, rfl, rfl⟩ | ⟨full, b, o, c, rfl, rfl, k1, k2, k3, k4⟩
  · exact ⟨slE_nil e, none, 0, rfl, .inl ⟨rfl, rfl, rfl, rfl, rfl⟩⟩
  · exact ⟨slE_im e n l full hs, some ⟨b, o, none⟩, c, rfl, .inr ⟨b, o, full, rfl, rfl, k1, k2, k3, k4⟩⟩
theorem conc_out {C : Cx} {B : Nat} {h : List Row} (hr : Rel C B h) {w' : World} {m : Nat} {vl : List Int} {g : Nat → Int} {u : Value} (ho : OutAt w' C.w.heap.size m (cellsM vl g m) u) :
    Conc { C with w := w' } (if m = 0 then .nils else .im (cellsM vl g m) m false) u := by
  rcases ho with ⟨rfl, rfl⟩ | ⟨hm, b, o, c, rfl, o1, o2, _, _, o5⟩
  · rw [if_pos rfl]; exact .v _
  · rw [if_neg hm]
    have hb : ¬ C.own b := by
      rintro ⟨k, q, e⟩
      have hlt : k < h.length := by rw [← hr.len]; exact (List.getElem?_eq_some_iff.1 e).1
      obtain ⟨_, us, t, e2, _⟩ := hr.row k b q _ e (List.getElem?_eq_getElem hlt)
      have := (Array.getElem?_eq_some_iff.1 e2).1
      omega
    have hX : ¬ C.X b := fun hx => by have := (hr.X b hx).1; omega
    have hz : ∀ (j : Nat) e, (cellsM vl g m)[j]? = some e → ∃ z, e = .i z := fun j e he => cells_int vl g m e (List.mem_of_getElem? he)
    refine Conc.im (fun j => match (cellsM vl g m)[j]? with | some (.v x) => x | _ => undef) o1 (fun h => by cases h) (fun j e he => ⟨hb, hX, ?_⟩) (fun j e he => ?_)
    · obtain ⟨z, rfl⟩ := hz j e he
      rw [he]; exact o5 j z he
    · obtain ⟨z, rfl⟩ := hz j e he
      rw [he]; exact .v _
theorem thO_ok : OrcOk Try.prog 6 thO := by
  intro args h lim x h' hf
  unfold thO at hf
  split at hf
  · rename_i V I fr cnt
    split at hf
    · rename_i nv vl li il hV hI
      split at hf
      · rename_i hli
        simp only [Option.some.injEq, Prod.mk.injEq] at hf
        obtain ⟨rfl, rfl⟩ := hf
        refine ⟨⟨Try.f6, Try.func6, rfl, by decide⟩, fun C B us hc hr => ?_⟩
        obtain ⟨uV, uI, u2, u3, rfl⟩ : ∃ a b c d, us = [a, b, c, d] := by
          have := hc.1
          match us, this with
          | [a, b, c, d], _ => exact ⟨a, b, c, d, rfl⟩
        have z2 := Conc.v_inv (hc.2 2 _ _ rfl rfl)
        have z3 := Conc.v_inv (hc.2 3 _ _ rfl rfl)
        subst z2; subst z3
        obtain ⟨sV, av, cv, rfl, vV⟩ := vin_of hV (hc.2 0 _ _ rfl rfl)
        obtain ⟨sI, ai, ci, rfl, vI⟩ := vin_of hI (hc.2 1 _ _ rfl rfl)
        refine orc_of2 hr ?_
        by_cases e3 : fr < 0 ∨ cnt < 0 ∨ cnt % 3 ≠ 0
        · rw [show thS nv vl li il fr cnt = (.nils, 3) from if_pos e3]
          refine (callsIn_wide.1 (threes_e3 C.w av ai nv cv li ci fr cnt ?_)).mono ?_
          · by_cases f0 : fr < 0
            · exact .inl f0
            · by_cases c0 : cnt < 0
              · exact .inr (.inl ⟨by omega, c0⟩)
              · refine .inr (.inr ⟨by omega, by omega, ?_⟩)
                rw [Int.tmod_eq_emod_of_nonneg (by omega)]; omega
          · rintro e w' ⟨rfl, hb⟩
            exact ⟨_, rfl, hb, conc_two (.v _)⟩
        by_cases e10 : (li : Int) < fr ∨ (li : Int) - fr < cnt
        · rw [show thS nv vl li il fr cnt = (.nils, 10) from by unfold thS; rw [if_neg e3, if_pos e10]]
          refine (callsIn_wide.1 (threes_e10 C.w av ai nv cv li ci fr cnt (by omega) (by omega) (by rw [Int.tmod_eq_emod_of_nonneg (by omega)]; omega) hli (by omega))).mono ?_
          rintro e w' ⟨rfl, hb⟩
          exact ⟨_, rfl, hb, conc_two (.v _)⟩
        obtain ⟨f, rfl⟩ : ∃ f : Nat, fr = f := ⟨fr.toNat, by omega⟩
        obtain ⟨m, rfl⟩ : ∃ m : Nat, cnt = ((3 * m : Nat) : Int) := ⟨cnt.toNat / 3, by omega⟩
        have hm3 : ((3 * m : Nat) : Int).toNat / 3 = m := by omega
        have hsz := sI.sz
        have key : ∀ e w', Post6 C.w vl nv (fun j => il.getD (f + j) 0) m e w' → ∃ v, e = .returned v ∧ Below C.w.heap.size C.w w' ∧ Conc { C with w := w' } (.tup [(thS nv vl li il f ((3 * m : Nat) : Int)).1, .i (thS nv vl li il f ((3 * m : Nat) : Int)).2]) v := by
          rintro e w' ⟨u, er, rfl, hb, hp⟩
          refine ⟨_, rfl, hb, ?_⟩
          unfold thS
          rw [if_neg e3, if_neg e10, hm3, Int.toNat_natCast]
          rcases hp with ⟨rfl, rfl, x, hx⟩ | ⟨rfl, hall, ho⟩
          · rw [if_neg (fun hh => hx (hh x.1 x.2))]
            exact conc_two (.v _)
          · rw [if_pos (fun k hk => hall ⟨k, hk⟩)]
            rw [cells_fl] at ho
            have := conc_two (n := 0) (conc_out hr ho)
            by_cases hm : m = 0
            · subst hm; exact this
            · rw [if_neg hm] at this
              rw [if_neg (by omega)]
              exact this
        rcases vI with ⟨rfl, rfl, rfl, rfl, rfl⟩ | ⟨bi, oi, full, rfl, rfl, k1, k2, k3, k4⟩
        · have hf0 : f = 0 := by omega
          have hm0 : m = 0 := by omega
          subst hf0; subst hm0
          exact (callsIn_wide.1 (threes_nil C.w V vl av _ nv cv sV vV)).mono key
        · refine (callsIn_wide.1 (threes_y C.w V vl av (fun j => il.getD (f + j) 0) nv cv bi oi li ci f m sV vV (by omega) k1 hli (fun hm => k3 ?_) (fun j hj => ?_))).mono key
          · rintro rfl; simp at hsz; omega
          · have := k4 (f + j) (by omega)
            rw [show oi + f + j = oi + (f + j) by omega]; exact this
      · cases hf
    · cases hf
  · cases hf
/-- The table with it. -/
def cm2 (g : FuncId) : Option ME := if g = 6 then some (.o thO) else cm g
theorem hcm2 : ∀ g m, cm2 g = some m → Good Try.prog g m := by
  intro g m h
  unfold cm2 at h
  split at h
  · rename_i e
    subst e
    simp only [Option.some.injEq] at h
    subst h
    exact thO_ok
  · exact hcm g m h
theorem e5 (k : Nat) : evP (evF cm2 (k + 100)) 5 [] = some (.b true) := by kernel_rfl
end Go.Proofs.Yteeghebaankmlaa
