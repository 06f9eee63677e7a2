/- Vertices, three by three, as an answer that is given. -/
import Derived.Test.YteeghebaankmlaaTH24
set_option linter.unusedSimpArgs false
set_option linter.unusedVariables false
set_option maxRecDepth 100000
set_option maxHeartbeats 4000000
namespace Go.Proofs.Yteeghebaankmlaa
open Go Go.RowKit
def iv1 : LV → Option Int
  | .v (.int .i64 x) => some x
  | _ => none
def ivs : List LV → Option (List Int)
  | [] => some []
  | x :: l => match iv1 x, ivs l with
    | some a, some b => some (a :: b)
    | _, _ => none
theorem ivs_map : ∀ {cs : List LV} {l : List Int}, ivs cs = some l → cs = l.map LV.i
  | [], l, h => by simp [ivs] at h; subst h; rfl
  | x :: cs, l, h => by
    simp only [ivs] at h
    split at h
    · rename_i a b ha hb
      simp only [Option.some.injEq] at h
      subst h
      rw [List.map_cons, ← ivs_map hb]
      unfold iv1 at ha
      split at ha
      · simp only [Option.some.injEq] at ha; subst ha; rfl
      · cases ha
    · cases h
theorem ivs_of : ∀ l : List Int, ivs (l.map LV.i) = some l
  | [] => rfl
  | x :: l => by simp only [List.map_cons, ivs, ivs_of l]; rfl
def slD (e : Nat) : LV → Option (Nat × List Int)
  | .v (.slice none 0 0) => some (0, [])
  | .im cs n _ => match ivs cs with
    | some l => if l.length = n * e then some (n, l) else none
    | none => none
  | _ => none
theorem slD_inv {e n : Nat} {l : List Int} {V : LV} {C : Cx} {u : Value} (h : slD e V = some (n, l)) (hc : Conc C V u) :
    l.length = n * e ∧ ((V = .nils ∧ u = .slice none 0 0 ∧ n = 0 ∧ l = []) ∨ ∃ full b o c, V = .im (l.map LV.i) n full ∧ u = .slice (some ⟨b, o, none⟩) n c ∧ n ≤ c ∧ (full = true → c = n) ∧ (l ≠ [] → b < C.w.heap.size) ∧ ∀ j, j < l.length → C.w.cell? ⟨b, o + j, none⟩ = some (.int .i64 (l.getD j 0))) := by
  unfold slD at h
  split at h
  · simp only [Option.some.injEq, Prod.mk.injEq] at h
    obtain ⟨rfl, rfl⟩ := h
    exact ⟨by simp, .inl ⟨rfl, Conc.v_inv hc, rfl, rfl⟩⟩
  · rename_i cs n' full
    split at h
    · rename_i l' hl
      split at h
      · rename_i hsz
        simp only [Option.some.injEq, Prod.mk.injEq] at h
        obtain ⟨rfl, rfl⟩ := h
        refine ⟨hsz, .inr ?_⟩
        have := ivs_map hl
        subst this
        cases hc with
        | im us k1 k2 k3 k4 =>
          rename_i c b o
          have hcell : ∀ j, j < l'.length → C.w.cell? ⟨b, o + j, none⟩ = some (.int .i64 (l'.getD j 0)) := fun j hj => by
            have he : (l'.map LV.i)[j]? = some (.i (l'.getD j 0)) := by simp [hj]
            have := Conc.v_inv (k4 j _ he)
            rw [← this]
            exact (k3 j _ he).2.2
          refine ⟨full, b, o, c, rfl, rfl, k1, k2, fun hne => ?_, hcell⟩
          have h0 := hcell 0 (by cases l' with | nil => exact absurd rfl hne | cons _ _ => simp)
          unfold World.cell? at h0
          rcases Nat.lt_or_ge b C.w.heap.size with h | h
          · exact h
          · simp [Array.getElem?_eq_none h] at h0
      · cases h
    · cases h
  · cases h
instance (nv : Nat) (g : Nat → Int) (k : Nat) : Decidable (okI nv g k) := by unfold okI; infer_instance
def cellsM (vl : List Int) (g : Nat → Int) (m : Nat) : List LV := (List.range m).flatMap (tri vl g)
theorem cells_fl (vl : List Int) (g : Nat → Int) (m : Nat) : cellsP vl g (fl m m) = cellsM vl g m := by
  have h1 : fl m m = List.finRange m := List.take_of_length_le (by simp)
  have h2 : (List.finRange m).map Fin.val = List.range m := by
    refine List.ext_getElem (by simp) fun i h1 h2 => by simp
  unfold cellsP cellsM
  rw [h1, ← h2, List.flatMap_map]
/-- What three by three hands back. -/
def thS (nv : Nat) (vl : List Int) (li : Nat) (il : List Int) (fr cnt : Int) : LV × Int :=
  if fr < 0 ∨ cnt < 0 ∨ cnt % 3 ≠ 0 then (.nils, 3)
  else if (li : Int) < fr ∨ (li : Int) - fr < cnt then (.nils, 10)
  else if ∀ k, k < cnt.toNat / 3 → okI nv (fun j => il.getD (fr.toNat + j) 0) k then
    if cnt = 0 then (.nils, 0) else (.im (cellsM vl (fun j => il.getD (fr.toNat + j) 0) (cnt.toNat / 3)) (cnt.toNat / 3) false, 0)
  else (.nils, 10)
def thO : List LV → List Row → Nat → Option (LV × List Row)
  | [V, I, .v (.int .i64 fr), .v (.int .i64 cnt)], h, _ => match slD 9 V, slD 1 I with
    | some (nv, vl), some (li, il) => if li ≤ 5000 then some (.tup [(thS nv vl li il fr cnt).1, .i (thS nv vl li il fr cnt).2], h) else none
    | _, _ => none
  | _, _, _ => none
theorem orc_of2 {C : Cx} {B : Nat} {h : List Row} {lim : Nat} {g : FuncId} {args : Array Value} {r : LV} (hr : Rel C B h) (hk : Calls Try.prog g args C.w fun e w' => ∃ v, e = .returned v ∧ Below C.w.heap.size C.w w' ∧ Conc { C with w := w' } r v) :
    Calls Try.prog g args C.w (fun e w' => ∃ C' u, C'.w = w' ∧ e = .returned u ∧ Conc C' r u ∧ Rel C' B h ∧ Le B C C' ∧ Fr lim C C') :=
  hk.mono fun e w' ⟨v, h1, h2, h3⟩ => ⟨{ C with w := w' }, v, rfl, h1, h3, hr.grow h2, Le.grow hr.size h2, Fr.grow rfl h2⟩
theorem conc_two {C : Cx} {a : LV} {u : Value} {n : Int} (h : Conc C a u) : Conc C (.tup [a, .i n]) (.tuple #[u, .int .i64 n]) :=
  Conc.tup (us := [u, .int .i64 n]) rfl fun i c v h1 h2 => by
    match i with
    | 0 => simp at h1 h2; subst h1; subst h2; exact h
    | 1 => simp at h1 h2; subst h1; subst h2; exact .v _
    | i + 2 => simp at h1
end Go.Proofs.Yteeghebaankmlaa
