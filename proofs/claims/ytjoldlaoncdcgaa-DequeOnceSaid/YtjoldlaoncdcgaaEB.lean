/- A run of an owner and of thieves, as it lies in a heap: what its parts become. -/
import Derived.Test.YtjoldlaoncdcgaaEA
set_option linter.unusedSimpArgs false
set_option linter.unusedVariables false
set_option maxRecDepth 100000
set_option maxHeartbeats 16000000
namespace Go.Proofs.Ytjoldlaoncdcgaa
open Go
def setO (G : GM) (t : Nat) (x : TH) : GM := { G with th := upd G.th t x }
def setM (G : GM) (M' : AM) : GM := { G with M := M' }
theorem setM_th (G : GM) (M' : AM) : (setM G M').th = G.th := rfl
theorem setO_same (G : GM) (t : Nat) (x : TH) : (setO G t x).th t = x := upd_same _ _ _
theorem setO_ne (G : GM) {t u : Nat} (x : TH) (h : u ≠ t) : (setO G t x).th u = G.th u := upd_ne _ _ h
/-- A list that grows. -/
theorem app_hat {R : Type} [DecidableEq R] {h : List Row} {live : R → Prop} {row : R → Nat} {c : R → Row} (H : HAt h live row c) (ρ : R) (l : List Int) (x : Int) (hl : l ≠ [] → live ρ ∧ c ρ = ⟨l.length - 1, l.map LV.i⟩) (hn : l.length < 100000) :
    ∃ h1 r1, appE 0 h 1 8 [.i x] 1 (outG 1 (row ρ) l.length) = some (outG 1 r1 (l.length + 1), h1) ∧ HAt h1 (fun τ => τ = ρ ∨ live τ) (setC row ρ r1) (setC c ρ ⟨l.length, (l ++ [x]).map LV.i⟩) ∧ h.length ≤ h1.length ∧ (∀ k, k < h.length → (l ≠ [] → k ≠ row ρ) → h1[k]? = h[k]?) ∧ (l ≠ [] ∧ r1 = row ρ ∨ r1 = h.length) := by
  cases l with
  | nil => exact ⟨h ++ [⟨0, [.i x]⟩], h.length, by simp [outG, appE], H.push ρ _, by simp, fun k hk _ => List.getElem?_append_left hk, .inr rfl⟩
  | cons y l =>
    obtain ⟨h1, h2⟩ := hl (by simp)
    have hr := rowOf_at (h2 ▸ H.at' ρ h1)
    simp only [List.length_cons, Nat.add_sub_cancel] at hr hn
    refine ⟨h.set (row ρ) ⟨l.length + 1, (y :: l).map LV.i ++ [.i x]⟩, row ρ, ?_, ?_, by simp, fun k hk hne => List.getElem?_set_ne (Ne.symm (hne (by simp))), .inl ⟨by simp, rfl⟩⟩
    · simp only [List.length_cons, outG, appE, hr, Nat.not_lt_zero, if_false]
      rw [if_neg (by omega), if_pos ⟨by omega, trivial, trivial, by simp, by omega, by omega⟩]
    · refine (H.put ρ h1 _).cast fun τ hτ => ⟨?_, ?_, ?_⟩
      · rcases hτ with rfl | hτ
        · exact h1
        · exact hτ
      · by_cases e : τ = ρ
        · subst e; rw [setC_eq]
        · rw [setC_ne _ _ e]
      · by_cases e : τ = ρ
        · subst e; rw [setC_eq, setC_eq]; simp
        · rw [setC_ne _ _ e, setC_ne _ _ e]
section
variable {S1 S2 : LV} {c th : Int} {h : List Row} {G : GM} {row : Tg → Nat} {gr : GR → Nat}
theorem GAt.lt (A : GAt S1 S2 c th h G row gr) {τ : GR} (hl : liveG G τ) : gr τ < h.length := A.hat.lt hl
theorem GAt.nls (A : GAt S1 S2 c th h G row gr) : gr .gm ≠ gr .ls := A.hat.ne (τ := .gm) (τ' := .ls) trivial trivial (by simp)
/-- A thread's cells turn, its operation stays. -/
theorem GAt.turn (A : GAt S1 S2 c th h G row gr) (t : Nat) (x : TH) (ho : x.o = (G.th t).o) {F : Nat → LV} (hF : ∀ u, u < G.n → F (u * 4) = qc (setO G t x) gr (u * 4) ∧ F (u * 4 + 1) = qc (setO G t x) gr (u * 4 + 1) ∧ F (u * 4 + 2) = qc (setO G t x) gr (u * 4 + 2) ∧ F (u * 4 + 3) = qc (setO G t x) gr (u * 4 + 3)) :
    GAt S1 S2 c th (h.set (gr .ls) ⟨0, cl (G.n * 4) F⟩) (setO G t x) row gr := by
  have hth : ∀ u, ((setO G t x).th u).o = (G.th u).o := fun u => by
    by_cases e : u = t
    · subst e; rw [setO_same]; exact ho
    · rw [setO_ne _ _ e]
  have hlive : ∀ τ, liveG (setO G t x) τ → liveG G τ := fun τ hτ => by
    cases τ with
    | op u => exact ⟨hτ.1, by rw [← hth u]; exact hτ.2⟩
    | _ => exact hτ
  refine ⟨A.mem.keep fun k hk => List.getElem?_set_ne (by rintro rfl; exact A.dis .ls trivial hk), (A.hat.put .ls trivial _).cast fun τ hτ => ⟨hlive τ hτ, rfl, ?_⟩, fun τ hτ => A.dis τ (hlive τ hτ)⟩
  cases τ with
  | ls => rw [setC_eq]; simp only [contR]; rw [cl4_congr hF]; rfl
  | op u => rw [setC_ne _ _ (by simp)]; simp only [contR, hth]
  | _ => rw [setC_ne _ _ (by simp)]; rfl
/-- An operation is over. -/
theorem GAt.drop (A : GAt S1 S2 c th h G row gr) (t : Nat) (x : TH) (ho : x.o = none) {F : Nat → LV} (hF : ∀ u, u < G.n → F (u * 4) = qc (setO G t x) gr (u * 4) ∧ F (u * 4 + 1) = qc (setO G t x) gr (u * 4 + 1) ∧ F (u * 4 + 2) = qc (setO G t x) gr (u * 4 + 2) ∧ F (u * 4 + 3) = qc (setO G t x) gr (u * 4 + 3)) :
    GAt S1 S2 c th (h.set (gr .ls) ⟨0, cl (G.n * 4) F⟩) (setO G t x) row gr := by
  have hlive : ∀ τ, liveG (setO G t x) τ → liveG G τ ∧ τ ≠ .op t := fun τ hτ => by
    cases τ with
    | op u =>
      by_cases e : u = t
      · subst e; exact absurd (by rw [setO_same]; exact ho) hτ.2
      · exact ⟨⟨hτ.1, by have := hτ.2; rwa [setO_ne _ _ e] at this⟩, by simpa using e⟩
    | _ => exact ⟨hτ, by simp⟩
  refine ⟨A.mem.keep fun k hk => List.getElem?_set_ne (by rintro rfl; exact A.dis .ls trivial hk), (A.hat.put .ls trivial _).cast fun τ hτ => ⟨(hlive τ hτ).1, rfl, ?_⟩, fun τ hτ => A.dis τ (hlive τ hτ).1⟩
  cases τ with
  | ls => rw [setC_eq]; simp only [contR]; rw [cl4_congr hF]; rfl
  | op u =>
    have e : u ≠ t := by have := (hlive _ hτ).2; simpa using this
    rw [setC_ne _ _ (by simp)]; simp only [contR, setO_ne _ _ e]
  | _ => rw [setC_ne _ _ (by simp)]; rfl
/-- A new operation. -/
theorem GAt.begin (A : GAt S1 S2 c th h G row gr) {t : Nat} (ht : t < G.n) (hov : (G.th t).over = false) (o : AO) {cs : List LV} (hcs : cs = o.cells) :
    GAt S1 S2 c th (newH c h G gr t cs) (setO G t ⟨some o, (G.th t).next + 1, 0, false⟩) row (setC gr (.op t) (h.length + 1)) := by
  subst hcs
  have hls := A.lt (τ := .ls) trivial
  have H1 : HAt (h ++ [(⟨0, [.i 0, .i c]⟩ : Row)]) (liveG G) gr (contR S1 S2 c th G row gr) := A.hat.congr fun τ hτ => ⟨hτ, List.getElem?_append_left (A.hat.lt hτ), rfl⟩
  have H2 := H1.push (.op t) ⟨0, o.cells⟩
  have e2 : setC gr (GR.op t) (h ++ [(⟨0, [.i 0, .i c]⟩ : Row)]).length = setC gr (.op t) (h.length + 1) := by simp
  rw [e2, List.append_assoc] at H2
  have H3 := H2.put .ls (.inr trivial) ⟨0, cl (G.n * 4) (upd (upd (upd (qc G gr) (t * 4) (.p (h.length + 1) 0 0)) (t * 4 + 1) (.i ((G.th t).next + 1))) (t * 4 + 2) (.i 0))⟩
  have hx : ∀ u, u ≠ t → ((setO G t ⟨some o, (G.th t).next + 1, 0, false⟩).th u) = G.th u := fun u e => setO_ne _ _ e
  refine ⟨?_, H3.cast fun τ hτ => ⟨?_, rfl, ?_⟩, fun τ hτ => ?_⟩
  · unfold newH
    exact (A.mem.app _).keep fun k hk => List.getElem?_set_ne (by rintro rfl; exact A.dis .ls trivial hk)
  · cases τ with
    | op u =>
      by_cases e : u = t
      · subst e; exact .inl rfl
      · exact .inr ⟨hτ.1, by have := hτ.2; rwa [hx u e] at this⟩
    | _ => exact .inr hτ
  · cases τ with
    | ls =>
      rw [setC_eq]
      simp only [contR]
      refine congrArg (Row.mk 0) (cl4_congr fun u hu => ?_)
      rw [qc0, qc1, qc2, qc3]
      by_cases e : u = t
      · subst e
        rw [setO_same]
        simp only [opP, setO_same, setC_eq]
        rw [upd_ne _ _ (by omega), upd_ne _ _ (by omega), upd_same, upd_ne _ _ (by omega), upd_same, upd_same, upd_ne _ _ (by omega), upd_ne _ _ (by omega), upd_ne _ _ (by omega), qc3, hov]
        exact ⟨rfl, by simp, rfl, rfl⟩
      · rw [hx u e]
        simp only [opP, hx u e]
        rw [setC_ne _ _ (by simpa using e)]
        repeat rw [upd_ne _ _ (by omega)]
        rw [qc0, qc1, qc2, qc3]
        exact ⟨rfl, rfl, rfl, rfl⟩
    | op u =>
      rw [setC_ne _ _ (by simp)]
      by_cases e : u = t
      · subst e; rw [setC_eq]; simp only [contR, setO_same]
      · rw [setC_ne _ _ (by simpa using e)]; simp only [contR, hx u e]
    | gm => rw [setC_ne _ _ (by simp), setC_ne _ _ (by simp)]; simp only [contR]; rw [setC_ne _ _ (by simp), setC_ne _ _ (by simp), setC_ne _ _ (by simp), setC_ne _ _ (by simp)]; rfl
    | _ => rw [setC_ne _ _ (by simp), setC_ne _ _ (by simp)]; rfl
  · cases τ with
    | op u =>
      by_cases e : u = t
      · subst e; rw [setC_eq]; exact fun hh => by have := A.mem.own hh; omega
      · rw [setC_ne _ _ (by simpa using e)]; exact A.dis (.op u) ⟨hτ.1, by have := hτ.2; rwa [hx u e] at this⟩
    | _ => rw [setC_ne _ _ (by simp)]; exact A.dis _ hτ
/-- A step of an operation. -/
theorem GAt.step (A : GAt S1 S2 c th h G row gr) {t : Nat} (ht : t < G.n) {o o' : AO} {h' : List Row} {M' : AM} {row' : Tg → Nat} (ho : (G.th t).o = some o) (R : OpRes h G.M row (gr (.op t)) h' M' row' o'.cells) :
    GAt S1 S2 c th h' (setM (setO G t ⟨some o', (G.th t).next, (G.th t).steps, (G.th t).over⟩) M') row' gr := by
  have hlt : liveG G (.op t) := ⟨ht, by rw [ho]; simp⟩
  have hlive : ∀ τ, liveG (setM (setO G t ⟨some o', (G.th t).next, (G.th t).steps, (G.th t).over⟩) M') τ → liveG G τ := fun τ hτ => by
    cases τ with
    | op u =>
      by_cases e : u = t
      · subst e; exact hlt
      · exact ⟨hτ.1, by have := hτ.2; rwa [show ((setM (setO G t ⟨some o', (G.th t).next, (G.th t).steps, (G.th t).over⟩) M').th u) = G.th u from setO_ne _ _ e] at this⟩
    | _ => exact hτ
  have hW : ∀ τ, liveG G τ → τ ≠ .op t → ¬ W (own G.M row) (gr (.op t)) (gr τ) := fun τ hτ hne hh => by
    rcases hh with hh | hh
    · exact A.dis τ hτ hh
    · exact A.hat.ne hτ hlt hne hh
  have inj := A.hat.inj
  refine ⟨R.mem, ⟨fun τ hτ => ?_, fun τ τ' a b e => inj τ τ' (hlive τ a) (hlive τ' b) e⟩, fun τ hτ => ?_⟩
  · by_cases hne : τ = .op t
    · subst hne
      rw [at_rowOf R.op]
      simp only [contR]
      rw [show ((setM (setO G t ⟨some o', (G.th t).next, (G.th t).steps, (G.th t).over⟩) M').th t) = ⟨some o', (G.th t).next, (G.th t).steps, (G.th t).over⟩ from setO_same _ _ _]
    · rw [R.fr.same _ (A.lt (hlive τ hτ)) (hW τ (hlive τ hτ) hne), A.hat.at' τ (hlive τ hτ)]
      refine congrArg some ?_
      cases τ with
      | gm => simp only [contR, R.rm]; rfl
      | ls =>
        simp only [contR]
        refine congrArg (Row.mk 0) (cl4_congr fun u hu => ?_)
        rw [qc0, qc1, qc2, qc3, qc0, qc1, qc2, qc3]
        by_cases e : u = t
        · subst e
          simp only [opP, ho, setM_th, setO_same]
          exact ⟨trivial, trivial, trivial, trivial⟩
        · simp only [opP, setM_th, setO_ne _ _ e]
          exact ⟨trivial, trivial, trivial, trivial⟩
      | op u =>
        have e : u ≠ t := by simpa using hne
        simp only [contR, setM_th, setO_ne _ _ e]
      | _ => rfl
  · by_cases hne : τ = .op t
    · subst hne; exact R.no
    · exact fun hh => R.fr.apart (A.lt (hlive τ hτ)) (hW τ (hlive τ hτ) hne) (.inl hh)
end
end Go.Proofs.Ytjoldlaoncdcgaa
