/- What was put is a thing of its own, as an answer that is given. -/
import Derived.Test.YtichjheodohkaaaVA22
import Derived.Test.YtichjheodohkaaaEng20
set_option linter.unusedSimpArgs false
set_option linter.unusedVariables false
set_option maxRecDepth 100000
set_option maxHeartbeats 4000000
namespace Go.Proofs.Ytichjheodohkaaa
open Go Go.RowKit
def iv1 : LV → Option Int
  | .v (.int .i64 x) => some x
  | _ => none
def ivs : List LV → Option (List Int)
  | [] => some []
  | x :: l => match iv1 x, ivs l with
    | some a, some b => some (a :: b)
    | _, _ => none
theorem ivs_map : ∀ {cs : List LV} {l : List Int}, ivs cs = some l → cs = l.map LV.i
  | [], l, h => by simp [ivs] at h; subst h; rfl
  | x :: cs, l, h => by
    simp only [ivs] at h
    split at h
    · rename_i a b ha hb
      simp only [Option.some.injEq] at h
      subst h
      rw [List.map_cons, ← ivs_map hb]
      unfold iv1 at ha
      split at ha
      · simp only [Option.some.injEq] at ha; subst ha; rfl
      · cases ha
    · cases h
theorem ivs_of : ∀ l : List Int, ivs (l.map LV.i) = some l
  | [] => rfl
  | x :: l => by simp only [List.map_cons, ivs, ivs_of l]; rfl
def slD (e : Nat) : LV → Option (Nat × List Int)
  | .v (.slice none 0 0) => some (0, [])
  | .im cs n _ => match ivs cs with
    | some l => if l.length = n * e then some (n, l) else none
    | none => none
  | _ => none
theorem slD_inv {e n : Nat} {l : List Int} {V : LV} {C : Cx} {u : Value} (h : slD e V = some (n, l)) (hc : Conc C V u) :
    l.length = n * e ∧ ((V = .nils ∧ u = .slice none 0 0 ∧ n = 0 ∧ l = []) ∨ ∃ full b o c, V = .im (l.map LV.i) n full ∧ u = .slice (some ⟨b, o, none⟩) n c ∧ n ≤ c ∧ (full = true → c = n) ∧ (l ≠ [] → b < C.w.heap.size) ∧ ∀ j, j < l.length → C.w.cell? ⟨b, o + j, none⟩ = some (.int .i64 (l.getD j 0))) := by
  unfold slD at h
  split at h
  · simp only [Option.some.injEq, Prod.mk.injEq] at h
    obtain ⟨rfl, rfl⟩ := h
    exact ⟨by simp, .inl ⟨rfl, Conc.v_inv hc, rfl, rfl⟩⟩
  · rename_i cs n' full
    split at h
    · rename_i l' hl
      split at h
      · rename_i hsz
        simp only [Option.some.injEq, Prod.mk.injEq] at h
        obtain ⟨rfl, rfl⟩ := h
        refine ⟨hsz, .inr ?_⟩
        have := ivs_map hl
        subst this
        cases hc with
        | im us k1 k2 k3 k4 =>
          rename_i c b o
          have hcell : ∀ j, j < l'.length → C.w.cell? ⟨b, o + j, none⟩ = some (.int .i64 (l'.getD j 0)) := fun j hj => by
            have he : (l'.map LV.i)[j]? = some (.i (l'.getD j 0)) := by simp [hj]
            have := Conc.v_inv (k4 j _ he)
            rw [← this]
            exact (k3 j _ he).2.2
          refine ⟨full, b, o, c, rfl, rfl, k1, k2, fun hne => ?_, hcell⟩
          have h0 := hcell 0 (by cases l' with | nil => exact absurd rfl hne | cons _ _ => simp)
          unfold World.cell? at h0
          rcases Nat.lt_or_ge b C.w.heap.size with h | h
          · exact h
          · simp [Array.getElem?_eq_none h] at h0
      · cases h
    · cases h
  · cases h
theorem orc_of2 {C : Cx} {B : Nat} {h : List Row} {lim : Nat} {g : FuncId} {args : Array Value} {r : LV} (hr : Rel C B h) (hk : Calls Try.prog g args C.w fun e w' => ∃ v, e = .returned v ∧ Below C.w.heap.size C.w w' ∧ Conc { C with w := w' } r v) :
    Calls Try.prog g args C.w (fun e w' => ∃ C' u, C'.w = w' ∧ e = .returned u ∧ Conc C' r u ∧ Rel C' B h ∧ Le B C C' ∧ Fr lim C C') :=
  hk.mono fun e w' ⟨v, h1, h2, h3⟩ => ⟨{ C with w := w' }, v, rfl, h1, h3, hr.grow h2, Le.grow hr.size h2, Fr.grow rfl h2⟩
theorem flat_ints {e : Nat} {L : List (List LV)} (h : ∀ x ∈ L, ∃ l : List Int, x = l.map LV.i ∧ l.length = e) : ∃ l : List Int, L.flatten = l.map LV.i ∧ l.length = L.length * e := by
  induction L with
  | nil => exact ⟨[], rfl, by simp⟩
  | cons x L ih =>
    obtain ⟨l, h1, h2⟩ := ih fun y hy => h y (by simp [hy])
    obtain ⟨a, h3, h4⟩ := h x (by simp)
    refine ⟨a ++ l, by simp [h3, h1], ?_⟩
    rw [List.length_append, h4, h2, List.length_cons, Nat.succ_mul]; omega
/-- What comes in as a slice, as it is held. -/
theorem sl_form {sh : Sh} {e : Nat} {cs : List LV} (he : ∀ x, Is sh x → ∃ l : List Int, x = l.map LV.i ∧ l.length = e) (h : Is (.sl sh) cs) : ∃ n l S, cs = [S] ∧ SlE e n l S ∧ slD e S = some (n, l) ∧ (e = 1 → n = l.length ∧ SlI l S) := by
  rcases h with rfl | ⟨L, rfl, _, hL⟩
  · exact ⟨0, [], _, rfl, slE_nil e, rfl, fun _ => ⟨rfl, slI_nil⟩⟩
  · obtain ⟨l, h1, h2⟩ := flat_ints fun x hx => he x (hL x hx)
    refine ⟨L.length, l, _, by rw [h1], slE_im e L.length l false h2, ?_, fun h => ?_⟩
    · simp only [slD, ivs_of, if_pos h2]
    · subst h
      have hl : L.length = l.length := by omega
      exact ⟨hl, by rw [hl]; exact slI_im l false⟩
theorem is_int : ∀ x, Is (.i .i64) x → ∃ l : List Int, x = l.map LV.i ∧ l.length = 1 := by
  rintro x ⟨n, rfl, _, _⟩
  exact ⟨[n], rfl, rfl⟩
theorem is_vert : ∀ x, Is (.agg [.i .i64, .i .i64, .i .i64, .agg [.i .i64, .i .i64, .i .i64, .i .i64], .i .i64, .i .i64]) x → ∃ l : List Int, x = l.map LV.i ∧ l.length = 9 := by
  rintro x ⟨_, _, rfl, ⟨a, rfl, _, _⟩, _, _, rfl, ⟨b, rfl, _, _⟩, _, _, rfl, ⟨c, rfl, _, _⟩, _, _, rfl, ⟨_, _, rfl, ⟨d, rfl, _, _⟩, _, _, rfl, ⟨e, rfl, _, _⟩, _, _, rfl, ⟨f, rfl, _, _⟩, _, _, rfl, ⟨g, rfl, _, _⟩, rfl⟩, _, _, rfl, ⟨u, rfl, _, _⟩, _, _, rfl, ⟨v, rfl, _, _⟩, rfl⟩
  exact ⟨[a, b, c, d, e, f, g, u, v], rfl, rfl⟩
def owO : List LV → List Row → Nat → Option (LV × List Row)
  | [V, L], h, _ => match slD 9 V, slD 1 L with
    | some _, some _ => some (.b true, h)
    | _, _ => none
  | _, _, _ => none
theorem owO_ok : OrcOk Try.prog 3 owO := by
  intro args h lim x h' hf
  unfold owO at hf
  split at hf
  · rename_i V L
    split at hf
    · rename_i p q hV hL
      obtain ⟨nv, vl⟩ := p
      obtain ⟨nl, il⟩ := q
      simp only [Option.some.injEq, Prod.mk.injEq] at hf
      obtain ⟨rfl, rfl⟩ := hf
      refine ⟨⟨Try.f3, Try.func3, rfl, by decide⟩, fun C B us hc hr => ?_⟩
      obtain ⟨uV, uL, rfl⟩ : ∃ a b, us = [a, b] := by
        have := hc.1
        match us, this with
        | [a, b], _ => exact ⟨a, b, rfl⟩
      obtain ⟨sv, vV⟩ := slD_inv hV (hc.2 0 _ _ rfl rfl)
      obtain ⟨sl, vL⟩ := slD_inv hL (hc.2 1 _ _ rfl rfl)
      refine orc_of2 hr ?_
      have fin : (CallsIn Fence.wide 5 Try.prog 3 #[uV, uL] C.w fun e w' => e = .returned (.bool true) ∧ Below C.w.heap.size C.w w') → Calls Try.prog 3 #[uV, uL] C.w fun e w' => ∃ v, e = .returned v ∧ Below C.w.heap.size C.w w' ∧ Conc { C with w := w' } (.b true) v := fun hk =>
        (callsIn_wide.1 hk).mono fun e w' ⟨h1, h2⟩ => ⟨_, h1, h2, .v _⟩
      refine fin ?_
      rcases vV with ⟨_, rfl, rfl, rfl⟩ | ⟨fv, bv, ov, cv, _, rfl, k1, _, k3, k4⟩
      · rcases vL with ⟨_, rfl, rfl, rfl⟩ | ⟨fl, bl, ol, cl, _, rfl, j1, _, j3, j4⟩
        · exact owns_out (.inl (by omega))
        · exact owns_out (.inl (by omega))
      · rcases vL with ⟨_, rfl, rfl, rfl⟩ | ⟨fl, bl, ol, cl, _, rfl, j1, _, j3, j4⟩
        · exact owns_out (.inr (.inr (.inl (by omega))))
        · by_cases ho : nv < 1 ∨ 1024 < nv ∨ nl < 1 ∨ 4096 < nl
          · exact owns_out ho
          · have v1 : 0 < vl.length := by omega
            have v2 : 0 < il.length := by omega
            exact owns_in (by omega) (by omega) sv k1 ⟨k3 (by rintro rfl; simp at v1), k4⟩ (by omega) (by omega) sl j1 ⟨j3 (by rintro rfl; simp at v2), j4⟩
    · cases hf
  · cases hf
/-- The table with it. -/
def cm3 (g : FuncId) : Option ME := if g = 3 then some (.o owO) else cm2 g
theorem hcm3 : ∀ g m, cm3 g = some m → Good Try.prog g m := by
  intro g m h
  unfold cm3 at h
  split at h
  · rename_i e
    subst e
    simp only [Option.some.injEq] at h
    subst h
    exact owO_ok
  · exact hcm2 g m h
theorem e3 (V L : LV) {p q : Nat × List Int} (h1 : slD 9 V = some p) (h2 : slD 1 L = some q) : evP (evF cm3 1) 3 [V, L] = some (.b true) := by
  have h : evF cm3 1 3 [V, L] [] 0 = owO [V, L] [] 0 := rfl
  unfold evP
  rw [h]
  simp only [owO, h1, h2]
  rfl
end Go.Proofs.Ytichjheodohkaaa
