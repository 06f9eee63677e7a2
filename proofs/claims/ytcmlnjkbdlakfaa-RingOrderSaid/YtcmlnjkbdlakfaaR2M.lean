/- A run at a ring, as it lies in a heap. -/
import Derived.Test.YtcmlnjkbdlakfaaRL
import Derived.Test.YtcmlnjkbdlakfaaR2X
set_option linter.unusedSimpArgs false
set_option linter.unusedVariables false
set_option maxRecDepth 100000
set_option maxHeartbeats 16000000
namespace Go.Proofs.Ytcmlnjkbdlakfaa
open Go
/-! ### rows of things -/
def cl (n : Nat) (F : Nat → LV) : List LV := (List.range n).map F
theorem cl_length (n : Nat) (F : Nat → LV) : (cl n F).length = n := by simp [cl]
theorem cl_get {n : Nat} {F : Nat → LV} {j : Nat} (h : j < n) : (cl n F)[j]? = some (F j) := by simp [cl, h]
theorem cl_put {n : Nat} {F : Nat → LV} {j : Nat} {x : LV} (h : j < n) : List.take j (cl n F) ++ [x] ++ List.drop (j + 1) (cl n F) = cl n (upd F j x) := by
  rw [List.append_assoc, List.cons_append, List.nil_append]
  refine List.ext_getElem? fun i => ?_
  rw [List.getElem?_append]
  have hl : (List.take j (cl n F)).length = j := by rw [List.length_take, cl_length]; omega
  rw [hl]
  by_cases hi : i < j
  · rw [if_pos hi, List.getElem?_take, if_pos hi, cl_get (by omega), cl_get (by omega), upd_ne _ _ (by omega)]
  · rw [if_neg hi]
    by_cases he : i = j
    · subst he; rw [Nat.sub_self, cl_get h, upd_same]; rfl
    · rw [show i - j = (i - j - 1) + 1 by omega, List.getElem?_cons_succ, List.getElem?_drop, show j + 1 + (i - j - 1) = i by omega]
      by_cases hn : i < n
      · rw [cl_get hn, cl_get hn, upd_ne _ _ he]
      · rw [List.getElem?_eq_none (by rw [cl_length]; omega), List.getElem?_eq_none (by rw [cl_length]; omega)]
theorem cl4_congr {n : Nat} {F F' : Nat → LV} (h : ∀ t, t < n → F (t * 4) = F' (t * 4) ∧ F (t * 4 + 1) = F' (t * 4 + 1) ∧ F (t * 4 + 2) = F' (t * 4 + 2) ∧ F (t * 4 + 3) = F' (t * 4 + 3)) : cl (n * 4) F = cl (n * 4) F' := by
  unfold cl
  refine List.map_congr_left fun j hj => ?_
  have hj := List.mem_range.1 hj
  obtain ⟨a, b, c, d⟩ := h (j / 4) (by omega)
  have : j % 4 = 0 ∨ j % 4 = 1 ∨ j % 4 = 2 ∨ j % 4 = 3 := by omega
  rcases this with e | e | e | e
  · rwa [show j / 4 * 4 = j by omega] at a
  · rwa [show j / 4 * 4 + 1 = j by omega] at b
  · rwa [show j / 4 * 4 + 2 = j by omega] at c
  · rwa [show j / 4 * 4 + 3 = j by omega] at d
/-! ### roles -/
inductive GR where
  | gm | ls | cl | rg | pb | pp
  | op (t : Nat)
  deriving DecidableEq
def liveG (W : Nat) (g : GM) (C : List Int) : GR → Prop
  | .cl => C ≠ []
  | .pb => g.pub ≠ none
  | .op u => (1 ≤ u ∧ u ≤ W) ∧ (g.w u).o ≠ none
  | _ => True
def opP (g : GM) (gr : GR → Nat) (u : Nat) : LV := match (g.w u).o with
  | some _ => .p (gr (.op u)) 0 0
  | none => .v (.pointer none)
def pubP (g : GM) (gr : GR → Nat) : LV := match g.pub with
  | some _ => .p (gr .pb) 0 0
  | none => .v (.pointer none)
/-- A worker's cells. -/
def qc (g : GM) (gr : GR → Nat) (j : Nat) : LV :=
  if j % 4 = 0 then opP g gr (j / 4 + 1) else if j % 4 = 1 then .i (g.w (j / 4 + 1)).frame else if j % 4 = 2 then .i (g.w (j / 4 + 1)).left else .b (g.w (j / 4 + 1)).read
theorem qc0 (g : GM) (gr : GR → Nat) (t : Nat) : qc g gr (t * 4) = opP g gr (t + 1) := by unfold qc; rw [if_pos (by omega), show t * 4 / 4 = t by omega]
theorem qc1 (g : GM) (gr : GR → Nat) (t : Nat) : qc g gr (t * 4 + 1) = .i (g.w (t + 1)).frame := by unfold qc; rw [if_neg (by omega), if_pos (by omega), show (t * 4 + 1) / 4 = t by omega]
theorem qc2 (g : GM) (gr : GR → Nat) (t : Nat) : qc g gr (t * 4 + 2) = .i (g.w (t + 1)).left := by unfold qc; rw [if_neg (by omega), if_neg (by omega), if_pos (by omega), show (t * 4 + 2) / 4 = t by omega]
theorem qc3 (g : GM) (gr : GR → Nat) (t : Nat) : qc g gr (t * 4 + 3) = .b (g.w (t + 1)).read := by unfold qc; rw [if_neg (by omega), if_neg (by omega), if_neg (by omega), show (t * 4 + 3) / 4 = t by omega]
def gmC (S1 S2 : LV) (K W m r : Nat) (P : LV) (l next : Nat) (C : LV) (done : Nat) : List LV := [.i K, S1, .i W, S2, .p m 0 0, .p r 0 0, P, .sl l 0 0 W 4 W, .i next, C, .i done, .b false]
def contR (S1 S2 : LV) (K W : Nat) (g : GM) (C : List Int) (row : Tg → Nat) (gr : GR → Nat) : GR → Row
  | .gm => ⟨0, gmC S1 S2 K W (row .mem) (gr .rg) (pubP g gr) (gr .ls) g.next (outG 1 (gr .cl) C.length) g.done⟩
  | .ls => ⟨0, cl (W * 4) (qc g gr)⟩
  | .cl => ⟨C.length - 1, C.map LV.i⟩
  | .rg => ⟨0, g.R.cells⟩
  | .pp => ⟨0, [.i K, S1, .i W, S2]⟩
  | .pb => match g.pub with
    | some o => ⟨0, o.cells (gr .rg)⟩
    | none => ⟨0, []⟩
  | .op u => match (g.w u).o with
    | some o => ⟨0, o.cells (gr .rg)⟩
    | none => ⟨0, []⟩
structure GAt (S1 S2 : LV) (K W : Nat) (h : List Row) (g : GM) (C : List Int) (row : Tg → Nat) (gr : GR → Nat) : Prop where
  mem : MemAt h g.M row
  hat : HAt h (liveG W g C) gr (contR S1 S2 K W g C row gr)
  dis : ∀ τ, liveG W g C τ → ¬ own g.M row (gr τ)
section
variable {S1 S2 : LV} {K W : Nat} {h : List Row} {g : GM} {C : List Int} {row : Tg → Nat} {gr : GR → Nat}
theorem GAt.rgm (A : GAt S1 S2 K W h g C row gr) : rowOf h (gr .gm) 0 = some (gmC S1 S2 K W (row .mem) (gr .rg) (pubP g gr) (gr .ls) g.next (outG 1 (gr .cl) C.length) g.done) := rowOf_at (A.hat.at' .gm trivial)
theorem GAt.rls (A : GAt S1 S2 K W h g C row gr) : rowOf h (gr .ls) 0 = some (cl (W * 4) (qc g gr)) := rowOf_at (A.hat.at' .ls trivial)
theorem GAt.rrg (A : GAt S1 S2 K W h g C row gr) : rowOf h (gr .rg) 0 = some g.R.cells := rowOf_at (A.hat.at' .rg trivial)
theorem GAt.rop (A : GAt S1 S2 K W h g C row gr) {u : Nat} {o : RO} (h1 : 1 ≤ u) (h2 : u ≤ W) (ho : (g.w u).o = some o) : rowOf h (gr (.op u)) 0 = some (o.cells (gr .rg)) := by
  have := A.hat.at' (.op u) (show liveG W g C (.op u) from And.intro ⟨h1, h2⟩ (by rw [ho]; simp))
  simp only [contR, ho] at this
  exact rowOf_at this
theorem GAt.rpb (A : GAt S1 S2 K W h g C row gr) {o : RO} (ho : g.pub = some o) : rowOf h (gr .pb) 0 = some (o.cells (gr .rg)) := by
  have := A.hat.at' .pb (show g.pub ≠ none by rw [ho]; simp)
  simp only [contR, ho] at this
  exact rowOf_at this
theorem GAt.ne0 (A : GAt S1 S2 K W h g C row gr) : h.isEmpty = false := A.mem.ne0
theorem GAt.lt (A : GAt S1 S2 K W h g C row gr) {τ : GR} (hl : liveG W g C τ) : gr τ < h.length := A.hat.lt hl
theorem GAt.ne (A : GAt S1 S2 K W h g C row gr) {τ τ' : GR} (hl : liveG W g C τ) (hl' : liveG W g C τ') (hn : τ ≠ τ') : gr τ ≠ gr τ' := A.hat.ne hl hl' hn
theorem GAt.view (A : GAt S1 S2 K W h g C row gr) {u t : Nat} (hu : u = t + 1) : ∃ F, qc g gr = F ∧ rowOf h (gr .ls) 0 = some (cl (W * 4) F) ∧ F (t * 4) = opP g gr u ∧ F (t * 4 + 1) = .i (g.w u).frame ∧ F (t * 4 + 2) = .i (g.w u).left ∧ F (t * 4 + 3) = .b (g.w u).read := by
  subst hu
  exact ⟨_, rfl, A.rls, qc0 _ _ _, qc1 _ _ _, qc2 _ _ _, qc3 _ _ _⟩
/-- The numbers turn. -/
theorem GAt.nums (A : GAt S1 S2 K W h g C row gr) (n d : Nat) :
    GAt S1 S2 K W (h.set (gr .gm) ⟨0, gmC S1 S2 K W (row .mem) (gr .rg) (pubP g gr) (gr .ls) n (outG 1 (gr .cl) C.length) d⟩) { g with next := n, done := d } C row gr := by
  refine ⟨A.mem.keep fun k hk => List.getElem?_set_ne (by rintro rfl; exact A.dis .gm trivial hk), (A.hat.put .gm trivial _).cast fun τ hτ => ⟨hτ, rfl, ?_⟩, fun τ hτ => A.dis τ hτ⟩
  cases τ with
  | gm => rw [setC_eq]; rfl
  | _ => rw [setC_ne _ _ (by simp)]; rfl
/-- Who publishes has no operation any more. -/
theorem GAt.pdrop (A : GAt S1 S2 K W h g C row gr) :
    GAt S1 S2 K W (h.set (gr .gm) ⟨0, gmC S1 S2 K W (row .mem) (gr .rg) (.v (.pointer none)) (gr .ls) g.next (outG 1 (gr .cl) C.length) g.done⟩) { g with pub := none } C row gr := by
  have hl : ∀ τ, liveG W { g with pub := none } C τ → liveG W g C τ ∧ τ ≠ .pb := fun τ hτ => by
    cases τ with
    | pb => exact absurd rfl hτ
    | _ => exact ⟨hτ, by simp⟩
  refine ⟨A.mem.keep fun k hk => List.getElem?_set_ne (by rintro rfl; exact A.dis .gm trivial hk), (A.hat.put .gm trivial _).cast fun τ hτ => ⟨(hl τ hτ).1, rfl, ?_⟩, fun τ hτ => A.dis τ (hl τ hτ).1⟩
  cases τ with
  | gm => rw [setC_eq]; rfl
  | pb => exact absurd rfl (hl _ hτ).2
  | _ => rw [setC_ne _ _ (by simp)]; rfl
/-- A new operation of who publishes. -/
theorem GAt.pnew (A : GAt S1 S2 K W h g C row gr) (o : RO) (n : Nat) :
    GAt S1 S2 K W (h.set (gr .gm) ⟨0, gmC S1 S2 K W (row .mem) (gr .rg) (.p h.length 0 0) (gr .ls) n (outG 1 (gr .cl) C.length) g.done⟩ ++ [(⟨0, o.cells (gr .rg)⟩ : Row)]) { g with pub := some o, next := n } C row (setC gr .pb h.length) := by
  have hgm := A.lt (τ := .gm) trivial
  have H1 := A.hat.put .gm trivial (⟨0, gmC S1 S2 K W (row .mem) (gr .rg) (.p h.length 0 0) (gr .ls) n (outG 1 (gr .cl) C.length) g.done⟩ : Row)
  have H2 := H1.push .pb ⟨0, o.cells (gr .rg)⟩
  have e2 : setC gr GR.pb (h.set (gr .gm) (⟨0, gmC S1 S2 K W (row .mem) (gr .rg) (.p h.length 0 0) (gr .ls) n (outG 1 (gr .cl) C.length) g.done⟩ : Row)).length = setC gr .pb h.length := by rw [List.length_set]
  rw [e2] at H2
  refine ⟨(A.mem.keep fun k hk => List.getElem?_set_ne (by rintro rfl; exact A.dis .gm trivial hk)).app _, H2.cast fun τ hτ => ⟨?_, rfl, ?_⟩, fun τ hτ => ?_⟩
  · cases τ with
    | pb => exact .inl rfl
    | _ => exact .inr hτ
  · cases τ with
    | gm =>
      rw [setC_ne _ _ (by simp), setC_eq]
      simp only [contR, pubP]
      rw [setC_eq]
      repeat rw [setC_ne _ _ (by simp)]
    | pb => rw [setC_eq]; simp only [contR]; rw [setC_ne _ _ (by simp)]
    | ls =>
      rw [setC_ne _ _ (by simp), setC_ne _ _ (by simp)]
      simp only [contR]
      refine congrArg (Row.mk 0) (cl4_congr fun u hu => ?_)
      rw [qc0, qc1, qc2, qc3, qc0, qc1, qc2, qc3]
      refine ⟨?_, rfl, rfl, rfl⟩
      simp only [opP]; rw [setC_ne _ _ (by simp)]
    | op u =>
      rw [setC_ne _ _ (by simp), setC_ne _ _ (by simp)]
      simp only [contR]
      rw [setC_ne _ _ (by simp)]
    | _ => rw [setC_ne _ _ (by simp), setC_ne _ _ (by simp)]; rfl
  · cases τ with
    | pb => rw [setC_eq]; exact fun hh => by have := A.mem.own hh; omega
    | _ => rw [setC_ne _ _ (by simp)]; exact A.dis _ hτ
/-- What an operation's step leaves elsewhere. -/
theorem GAt.apart (A : GAt S1 S2 K W h g C row gr) {ρ : GR} (hρ : liveG W g C ρ) {h' : List Row} {M' : AM} {row' : Tg → Nat} {R' : RG} {cs' : List LV} (X : RRes h g.M row (gr ρ) (gr .rg) h' M' row' R' cs') {τ : GR} (hτ : liveG W g C τ) (h1 : τ ≠ ρ) (h2 : τ ≠ .rg) : h'[gr τ]? = h[gr τ]? ∧ ¬ own M' row' (gr τ) := by
  have hw : ¬ W2 (own g.M row) (gr ρ) (gr .rg) (gr τ) := fun hh => by
    rcases hh with hh | hh | hh
    · exact A.dis τ hτ hh
    · exact A.ne hτ hρ h1 hh
    · exact A.ne hτ (τ' := .rg) trivial h2 hh
  exact ⟨X.fr.same _ (A.lt hτ) hw, fun hh => X.fr.apart (A.lt hτ) hw (.inl hh)⟩
/-- A step of who publishes. -/
theorem GAt.pstep (A : GAt S1 S2 K W h g C row gr) {o o' : RO} {h' : List Row} {M' : AM} {row' : Tg → Nat} {R' : RG} (ho : g.pub = some o) (X : RRes h g.M row (gr .pb) (gr .rg) h' M' row' R' (o'.cells (gr .rg))) :
    GAt S1 S2 K W h' { g with M := M', R := R', pub := some o' } C row' gr := by
  have hlt : liveG W g C .pb := by show g.pub ≠ none; rw [ho]; simp
  have hlive : ∀ τ, liveG W { g with M := M', R := R', pub := some o' } C τ → liveG W g C τ := fun τ hτ => by
    cases τ with
    | pb => exact hlt
    | _ => exact hτ
  have inj := A.hat.inj
  refine ⟨X.mem, ⟨fun τ hτ => ?_, fun τ τ' a b e => inj τ τ' (hlive τ a) (hlive τ' b) e⟩, fun τ hτ => ?_⟩
  · by_cases h1 : τ = .pb
    · subst h1; rw [at_rowOf X.op]; rfl
    by_cases h2 : τ = .rg
    · subst h2; rw [at_rowOf X.rg]; rfl
    rw [(A.apart hlt X (hlive τ hτ) h1 h2).1, A.hat.at' τ (hlive τ hτ)]
    refine congrArg some ?_
    cases τ with
    | gm => simp only [contR, pubP, X.rm, ho]
    | pb => exact absurd rfl h1
    | rg => exact absurd rfl h2
    | _ => rfl
  · by_cases h1 : τ = .pb
    · subst h1; exact X.no
    by_cases h2 : τ = .rg
    · subst h2; exact X.nr
    exact (A.apart hlt X (hlive τ hτ) h1 h2).2
/-- A step of a worker. -/
theorem GAt.wstep (A : GAt S1 S2 K W h g C row gr) {u : Nat} (h1 : 1 ≤ u) (h2 : u ≤ W) {o o' : RO} {h' : List Row} {M' : AM} {row' : Tg → Nat} {R' : RG} (ho : (g.w u).o = some o) (X : RRes h g.M row (gr (.op u)) (gr .rg) h' M' row' R' (o'.cells (gr .rg))) :
    GAt S1 S2 K W h' { g with M := M', R := R', w := upd g.w u { g.w u with o := some o' } } C row' gr := by
  have hlt : liveG W g C (.op u) := ⟨⟨h1, h2⟩, by rw [ho]; simp⟩
  have hlive : ∀ τ, liveG W { g with M := M', R := R', w := upd g.w u { g.w u with o := some o' } } C τ → liveG W g C τ := fun τ hτ => by
    cases τ with
    | op v =>
      by_cases e : v = u
      · subst e; exact hlt
      · exact ⟨hτ.1, by have := hτ.2; dsimp only at this; rwa [upd_ne _ _ e] at this⟩
    | _ => exact hτ
  have inj := A.hat.inj
  refine ⟨X.mem, ⟨fun τ hτ => ?_, fun τ τ' a b e => inj τ τ' (hlive τ a) (hlive τ' b) e⟩, fun τ hτ => ?_⟩
  · by_cases e1 : τ = .op u
    · subst e1; rw [at_rowOf X.op]; simp only [contR, upd_same]
    by_cases e2 : τ = .rg
    · subst e2; rw [at_rowOf X.rg]; rfl
    rw [(A.apart hlt X (hlive τ hτ) e1 e2).1, A.hat.at' τ (hlive τ hτ)]
    refine congrArg some ?_
    cases τ with
    | gm => simp only [contR, pubP, X.rm]
    | ls =>
      simp only [contR]
      refine congrArg (Row.mk 0) (cl4_congr fun v hv => ?_)
      rw [qc0, qc1, qc2, qc3, qc0, qc1, qc2, qc3]
      by_cases e : v + 1 = u
      · subst e
        simp only [opP, ho, upd_same]
        exact ⟨trivial, trivial, trivial, trivial⟩
      · simp only [opP, upd_ne _ _ e]
        exact ⟨trivial, trivial, trivial, trivial⟩
    | op v =>
      have e : v ≠ u := by simpa using e1
      simp only [contR, upd_ne _ _ e]
    | rg => exact absurd rfl e2
    | _ => rfl
  · by_cases e1 : τ = .op u
    · subst e1; exact X.no
    by_cases e2 : τ = .rg
    · subst e2; exact X.nr
    exact (A.apart hlt X (hlive τ hτ) e1 e2).2
/-- A worker's cells turn, its operation stays or goes. -/
theorem GAt.turn (A : GAt S1 S2 K W h g C row gr) (u : Nat) (x : Wk) (ho : x.o = (g.w u).o ∨ x.o = none) {F : Nat → LV} (hF : ∀ v, F (v * 4) = qc { g with w := upd g.w u x } gr (v * 4) ∧ F (v * 4 + 1) = qc { g with w := upd g.w u x } gr (v * 4 + 1) ∧ F (v * 4 + 2) = qc { g with w := upd g.w u x } gr (v * 4 + 2) ∧ F (v * 4 + 3) = qc { g with w := upd g.w u x } gr (v * 4 + 3)) :
    GAt S1 S2 K W (h.set (gr .ls) ⟨0, cl (W * 4) F⟩) { g with w := upd g.w u x } C row gr := by
  have hth : ∀ v, (upd g.w u x v).o ≠ none → (upd g.w u x v).o = (g.w v).o := fun v hv => by
    by_cases e : v = u
    · subst e
      rw [upd_same] at hv ⊢
      exact ho.resolve_right hv
    · rw [upd_ne _ _ e]
  have hlive : ∀ τ, liveG W { g with w := upd g.w u x } C τ → liveG W g C τ := fun τ hτ => by
    cases τ with
    | op v => exact ⟨hτ.1, by rw [← hth v hτ.2]; exact hτ.2⟩
    | _ => exact hτ
  refine ⟨A.mem.keep fun k hk => List.getElem?_set_ne (by rintro rfl; exact A.dis .ls trivial hk), (A.hat.put .ls trivial _).cast fun τ hτ => ⟨hlive τ hτ, rfl, ?_⟩, fun τ hτ => A.dis τ (hlive τ hτ)⟩
  cases τ with
  | ls => rw [setC_eq]; simp only [contR]; rw [cl4_congr fun v _ => hF v]
  | op v => rw [setC_ne _ _ (by simp)]; simp only [contR]; rw [hth v hτ.2]
  | _ => rw [setC_ne _ _ (by simp)]; rfl
/-- A worker's new operation; rows of nobody lie ahead of it. -/
theorem GAt.wnew (A : GAt S1 S2 K W h g C row gr) {u : Nat} (h1 : 1 ≤ u) (h2 : u ≤ W) (o : RO) (X : List Row) {F : Nat → LV} (hF : ∀ v, F (v * 4) = (if v + 1 = u then .p (h.length + X.length) 0 0 else qc g gr (v * 4)) ∧ F (v * 4 + 1) = qc g gr (v * 4 + 1) ∧ F (v * 4 + 2) = qc g gr (v * 4 + 2) ∧ F (v * 4 + 3) = qc g gr (v * 4 + 3)) :
    GAt S1 S2 K W (h.set (gr .ls) ⟨0, cl (W * 4) F⟩ ++ X ++ [(⟨0, o.cells (gr .rg)⟩ : Row)]) { g with w := upd g.w u { g.w u with o := some o } } C row (setC gr (.op u) (h.length + X.length)) := by
  have hls := A.lt (τ := .ls) trivial
  have H0 := A.hat.put .ls trivial (⟨0, cl (W * 4) F⟩ : Row)
  have H1 : HAt (h.set (gr .ls) ⟨0, cl (W * 4) F⟩ ++ X) (liveG W g C) gr (setC (contR S1 S2 K W g C row gr) .ls ⟨0, cl (W * 4) F⟩) := H0.congr fun τ hτ => ⟨hτ, List.getElem?_append_left (H0.lt hτ), rfl⟩
  have H2 := H1.push (.op u) ⟨0, o.cells (gr .rg)⟩
  have e2 : setC gr (GR.op u) (h.set (gr .ls) ⟨0, cl (W * 4) F⟩ ++ X).length = setC gr (.op u) (h.length + X.length) := by rw [List.length_append, List.length_set]
  rw [e2] at H2
  refine ⟨((A.mem.keep fun k hk => List.getElem?_set_ne (by rintro rfl; exact A.dis .ls trivial hk)).app _).app _, H2.cast fun τ hτ => ⟨?_, rfl, ?_⟩, fun τ hτ => ?_⟩
  · cases τ with
    | op v =>
      by_cases e : v = u
      · subst e; exact .inl rfl
      · exact .inr ⟨hτ.1, by have := hτ.2; dsimp only at this; rwa [upd_ne _ _ e] at this⟩
    | _ => exact .inr hτ
  · cases τ with
    | ls =>
      rw [setC_ne _ _ (by simp), setC_eq]
      simp only [contR]
      refine congrArg (Row.mk 0) (cl4_congr fun v hv => ?_)
      obtain ⟨a, b, c, d⟩ := hF v
      rw [a, b, c, d, qc0, qc1, qc2, qc3, qc0, qc1, qc2, qc3]
      by_cases e : v + 1 = u
      · subst e
        simp only [opP, upd_same, setC_eq, if_true]
        exact ⟨trivial, trivial, trivial, trivial⟩
      · rw [if_neg e]
        simp only [opP, upd_ne _ _ e]
        rw [setC_ne _ _ (by simpa using e)]
        refine ⟨?_, ?_, ?_, ?_⟩ <;> first | rfl | trivial
    | op v =>
      by_cases e : v = u
      · subst e; rw [setC_eq]; simp only [contR, upd_same]; rw [setC_ne _ _ (by simp)]
      · rw [setC_ne _ _ (by simpa using e), setC_ne _ _ (by simp)]; simp only [contR, upd_ne _ _ e]; rw [setC_ne _ _ (by simp)]
    | gm => rw [setC_ne _ _ (by simp), setC_ne _ _ (by simp)]; simp only [contR, pubP]; repeat rw [setC_ne _ _ (by simp)]
    | pb => rw [setC_ne _ _ (by simp), setC_ne _ _ (by simp)]; simp only [contR]; rw [setC_ne _ _ (by simp)]
    | _ => rw [setC_ne _ _ (by simp), setC_ne _ _ (by simp)]; rfl
  · cases τ with
    | op v =>
      by_cases e : v = u
      · subst e; rw [setC_eq]; exact fun hh => by have := A.mem.own hh; omega
      · rw [setC_ne _ _ (by simpa using e)]; exact A.dis (.op v) ⟨hτ.1, by have := hτ.2; dsimp only at this; rwa [upd_ne _ _ e] at this⟩
    | _ => rw [setC_ne _ _ (by simp)]; exact A.dis _ hτ
/-- The memory turns, the run's rows stay. -/
theorem GAt.mfr (A : GAt S1 S2 K W h g C row gr) {h' : List Row} {row' : Tg → Nat} {M' : AM} (H' : MemAt h' M' row') (hrm : row' .mem = row .mem) (X : Frm (own g.M row) (own M' row') h h') : GAt S1 S2 K W h' { g with M := M' } C row' gr := by
  refine ⟨H', ⟨fun τ hτ => ?_, A.hat.inj⟩, fun τ hτ => X.apart (A.lt hτ) (A.dis τ hτ)⟩
  rw [X.same _ (A.lt hτ) (A.dis τ hτ), A.hat.at' τ hτ]
  refine congrArg some ?_
  cases τ with
  | gm => simp only [contR, pubP, hrm]
  | _ => rfl
end
/-- A list that grows. -/
theorem app_hat {R : Type} [DecidableEq R] {h : List Row} {live : R → Prop} {row : R → Nat} {c : R → Row} (H : HAt h live row c) (ρ : R) (l : List Int) (x : Int) (hl : l ≠ [] → live ρ ∧ c ρ = ⟨l.length - 1, l.map LV.i⟩) (hn : l.length < 100000) :
    ∃ h1 r1, appE 0 h 1 8 [.i x] 1 (outG 1 (row ρ) l.length) = some (outG 1 r1 (l.length + 1), h1) ∧ HAt h1 (fun τ => τ = ρ ∨ live τ) (setC row ρ r1) (setC c ρ ⟨l.length, (l ++ [x]).map LV.i⟩) ∧ h.length ≤ h1.length ∧ (∀ k, k < h.length → (l ≠ [] → k ≠ row ρ) → h1[k]? = h[k]?) ∧ (l ≠ [] ∧ r1 = row ρ ∨ r1 = h.length) := by
  cases l with
  | nil => exact ⟨h ++ [⟨0, [.i x]⟩], h.length, by simp [outG, appE], H.push ρ _, by simp, fun k hk _ => List.getElem?_append_left hk, .inr rfl⟩
  | cons y l =>
    obtain ⟨h1, h2⟩ := hl (by simp)
    have hr := rowOf_at (h2 ▸ H.at' ρ h1)
    simp only [List.length_cons, Nat.add_sub_cancel] at hr hn
    refine ⟨h.set (row ρ) ⟨l.length + 1, (y :: l).map LV.i ++ [.i x]⟩, row ρ, ?_, ?_, by simp, fun k hk hne => List.getElem?_set_ne (Ne.symm (hne (by simp))), .inl ⟨by simp, rfl⟩⟩
    · simp only [List.length_cons, outG, appE, hr, Nat.not_lt_zero, if_false]
      rw [if_neg (by omega), if_pos ⟨by omega, trivial, trivial, by simp, by omega, by omega⟩]
    · refine (H.put ρ h1 _).cast fun τ hτ => ⟨?_, ?_, ?_⟩
      · rcases hτ with rfl | hτ
        · exact h1
        · exact hτ
      · by_cases e : τ = ρ
        · subst e; rw [setC_eq]
        · rw [setC_ne _ _ e]
      · by_cases e : τ = ρ
        · subst e; rw [setC_eq, setC_eq]; simp
        · rw [setC_ne _ _ e, setC_ne _ _ e]
section
variable {S1 S2 : LV} {K W : Nat} {h : List Row} {g : GM} {C : List Int} {row : Tg → Nat} {gr : GR → Nat}
/-- One more is claimed. -/
theorem GAt.push (A : GAt S1 S2 K W h g C row gr) (x : Int) (hn : C.length < 100000) :
    ∃ h1 r1, appE 0 h 1 8 [.i x] 1 (outG 1 (gr .cl) C.length) = some (outG 1 r1 (C.length + 1), h1) ∧ rowOf h1 (gr .gm) 0 = rowOf h (gr .gm) 0 ∧
      GAt S1 S2 K W (h1.set (gr .gm) ⟨0, gmC S1 S2 K W (row .mem) (gr .rg) (pubP g gr) (gr .ls) g.next (outG 1 r1 (C.length + 1)) g.done⟩) g (C ++ [x]) row (setC gr .cl r1) := by
  obtain ⟨h1, r1, e, H1, hle, same, hr1⟩ := app_hat A.hat .cl C x (fun hne => ⟨hne, rfl⟩) hn
  have hgm := A.lt (τ := .gm) trivial
  have hne : ∀ τ, liveG W g C τ → τ ≠ .cl → gr τ < h.length ∧ (C ≠ [] → gr τ ≠ gr .cl) := fun τ hτ hx => ⟨A.lt hτ, fun hh => A.hat.ne hτ (show liveG W g C .cl from hh) hx⟩
  have hown : ∀ k, own g.M row k → h1[k]? = h[k]? := fun k hk => same k (A.mem.own hk) fun hh e => by subst e; exact A.dis .cl hh hk
  have H2 := H1.put .gm (.inr trivial) ⟨0, gmC S1 S2 K W (row .mem) (gr .rg) (pubP g gr) (gr .ls) g.next (outG 1 r1 (C.length + 1)) g.done⟩
  have e0 : setC gr .cl r1 .gm = gr .gm := setC_ne _ _ (by simp)
  rw [e0] at H2
  refine ⟨h1, r1, e, ?_, (A.mem.keep hown).keep fun k hk => List.getElem?_set_ne (by rintro rfl; exact A.dis .gm trivial hk), H2.cast fun τ hτ => ⟨?_, rfl, ?_⟩, fun τ hτ => ?_⟩
  · unfold rowOf; rw [same _ hgm (hne .gm trivial (by simp)).2]
  · cases τ with
    | cl => exact .inl rfl
    | _ => exact .inr hτ
  · cases τ with
    | gm =>
      rw [setC_eq]
      simp only [contR, pubP, List.length_append, List.length_singleton]
      rw [setC_eq]
      repeat rw [setC_ne _ _ (by simp)]
    | cl => rw [setC_ne _ _ (by simp), setC_eq]; simp [contR]
    | ls =>
      rw [setC_ne _ _ (by simp), setC_ne _ _ (by simp)]
      simp only [contR]
      refine congrArg (Row.mk 0) (cl4_congr fun u hu => ?_)
      rw [qc0, qc1, qc2, qc3, qc0, qc1, qc2, qc3]
      refine ⟨?_, rfl, rfl, rfl⟩
      simp only [opP]; rw [setC_ne _ _ (by simp)]
    | op u => rw [setC_ne _ _ (by simp), setC_ne _ _ (by simp)]; simp only [contR]; rw [setC_ne _ _ (by simp)]
    | pb => rw [setC_ne _ _ (by simp), setC_ne _ _ (by simp)]; simp only [contR]; rw [setC_ne _ _ (by simp)]
    | _ => rw [setC_ne _ _ (by simp), setC_ne _ _ (by simp)]; rfl
  · by_cases hx : τ = .cl
    · subst hx
      rw [setC_eq]
      rcases hr1 with ⟨hh, rfl⟩ | rfl
      · exact A.dis .cl hh
      · exact fun hh => Nat.lt_irrefl _ (A.mem.own hh)
    · rw [setC_ne _ _ hx]
      refine A.dis τ ?_
      cases τ with
      | cl => exact absurd rfl hx
      | _ => exact hτ
end
end Go.Proofs.Ytcmlnjkbdlakfaa
