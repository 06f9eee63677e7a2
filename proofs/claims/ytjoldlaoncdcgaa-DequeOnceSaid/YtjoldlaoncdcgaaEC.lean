/- A run of an owner and of thieves, as it lies in a heap: an operation's end. -/
import Derived.Test.YtjoldlaoncdcgaaEB
set_option linter.unusedSimpArgs false
set_option linter.unusedVariables false
set_option maxRecDepth 100000
set_option maxHeartbeats 16000000
namespace Go.Proofs.Ytjoldlaoncdcgaa
open Go
theorem gOutG_cells (e r0 i : Nat) : (outG e r0 i).cells = [outG e r0 i] := by cases i <;> rfl
theorem gOutG_atom (e r0 i : Nat) : atomB (outG e r0 i) = true := by cases i <;> rfl
section
variable {S1 S2 : LV} {c th : Int} {h : List Row} {G : GM} {row : Tg → Nat} {gr : GR → Nat}
theorem GAt.view (A : GAt S1 S2 c th h G row gr) (t : Nat) : ∃ F, qc G gr = F ∧ rowOf h (gr .ls) 0 = some (cl (G.n * 4) F) ∧ F (t * 4) = opP G gr t ∧ F (t * 4 + 1) = .i (G.th t).next ∧ F (t * 4 + 2) = .i (G.th t).steps ∧ F (t * 4 + 3) = .b (G.th t).over :=
  ⟨_, rfl, A.rls, qc0 _ _ _, qc1 _ _ _, qc2 _ _ _, qc3 _ _ _⟩
/-- One more in a list. -/
theorem GAt.gPu (A : GAt S1 S2 c th h G row gr) (x : Int) (hn : G.pu.length < 100000) :
    ∃ h1 r1, appE 0 h 1 8 [.i x] 1 (outG 1 (gr .pu) G.pu.length) = some (outG 1 r1 (G.pu.length + 1), h1) ∧ rowOf h1 (gr .gm) 0 = rowOf h (gr .gm) 0 ∧
      GAt S1 S2 c th (h1.set (gr .gm) ⟨0, [S1, .i c, .i th, S2, .p (row .mem) 0 0, .i 0, .i c, .sl (gr .ls) 0 0 G.n 4 G.n, outG 1 r1 (G.pu.length + 1), outG 1 (gr .st) G.st.length, outG 1 (gr .go) G.go.length, .b false]⟩) { G with pu := G.pu ++ [x] } row (setC gr .pu r1) := by
  obtain ⟨h1, r1, e, H1, hle, same, hr1⟩ := app_hat A.hat .pu G.pu x (fun hne => ⟨hne, rfl⟩) hn
  have hgm := A.lt (τ := .gm) trivial
  have hne : ∀ τ, liveG G τ → τ ≠ .pu → gr τ < h.length ∧ (G.pu ≠ [] → gr τ ≠ gr .pu) := fun τ hτ hx => ⟨A.lt hτ, fun hh => A.hat.ne hτ (show liveG G .pu from hh) hx⟩
  have hown : ∀ k, own G.M row k → h1[k]? = h[k]? := fun k hk => same k (A.mem.own hk) fun hh e => by subst e; exact A.dis .pu hh hk
  have H2 := H1.put .gm (.inr trivial) ⟨0, [S1, .i c, .i th, S2, .p (row .mem) 0 0, .i 0, .i c, .sl (gr .ls) 0 0 G.n 4 G.n, outG 1 r1 (G.pu.length + 1), outG 1 (gr .st) G.st.length, outG 1 (gr .go) G.go.length, .b false]⟩
  have e0 : setC gr .pu r1 .gm = gr .gm := setC_ne _ _ (by simp)
  rw [e0] at H2
  refine ⟨h1, r1, e, ?_, (A.mem.keep hown).keep fun k hk => List.getElem?_set_ne (by rintro rfl; exact A.dis .gm trivial hk), H2.cast fun τ hτ => ⟨?_, rfl, ?_⟩, fun τ hτ => ?_⟩
  · unfold rowOf; rw [same _ hgm (hne .gm trivial (by simp)).2]
  · cases τ with
    | pu => exact .inl rfl
    | _ => exact .inr hτ
  · cases τ with
    | gm =>
      rw [setC_eq]
      simp only [contR, gmC, List.length_append, List.length_singleton]
      rw [setC_eq]
      repeat rw [setC_ne _ _ (by simp)]
    | pu => rw [setC_ne _ _ (by simp), setC_eq]; simp [contR]
    | ls =>
      rw [setC_ne _ _ (by simp), setC_ne _ _ (by simp)]
      simp only [contR]
      refine congrArg (Row.mk 0) (cl4_congr fun u hu => ?_)
      rw [qc0, qc1, qc2, qc3, qc0, qc1, qc2, qc3]
      refine ⟨?_, rfl, rfl, rfl⟩
      simp only [opP]; rw [setC_ne _ _ (by simp)]
    | _ => rw [setC_ne _ _ (by simp), setC_ne _ _ (by simp)]; rfl
  · by_cases hx : τ = .pu
    · subst hx
      rw [setC_eq]
      rcases hr1 with ⟨hh, rfl⟩ | rfl
      · exact A.dis .pu hh
      · exact fun hh => Nat.lt_irrefl _ (A.mem.own hh)
    · rw [setC_ne _ _ hx]
      refine A.dis τ ?_
      cases τ with
      | pu => exact absurd rfl hx
      | _ => exact hτ
/-- One more in a list. -/
theorem GAt.gSt (A : GAt S1 S2 c th h G row gr) (x : Int) (hn : G.st.length < 100000) :
    ∃ h1 r1, appE 0 h 1 8 [.i x] 1 (outG 1 (gr .st) G.st.length) = some (outG 1 r1 (G.st.length + 1), h1) ∧ rowOf h1 (gr .gm) 0 = rowOf h (gr .gm) 0 ∧
      GAt S1 S2 c th (h1.set (gr .gm) ⟨0, [S1, .i c, .i th, S2, .p (row .mem) 0 0, .i 0, .i c, .sl (gr .ls) 0 0 G.n 4 G.n, outG 1 (gr .pu) G.pu.length, outG 1 r1 (G.st.length + 1), outG 1 (gr .go) G.go.length, .b false]⟩) { G with st := G.st ++ [x] } row (setC gr .st r1) := by
  obtain ⟨h1, r1, e, H1, hle, same, hr1⟩ := app_hat A.hat .st G.st x (fun hne => ⟨hne, rfl⟩) hn
  have hgm := A.lt (τ := .gm) trivial
  have hne : ∀ τ, liveG G τ → τ ≠ .st → gr τ < h.length ∧ (G.st ≠ [] → gr τ ≠ gr .st) := fun τ hτ hx => ⟨A.lt hτ, fun hh => A.hat.ne hτ (show liveG G .st from hh) hx⟩
  have hown : ∀ k, own G.M row k → h1[k]? = h[k]? := fun k hk => same k (A.mem.own hk) fun hh e => by subst e; exact A.dis .st hh hk
  have H2 := H1.put .gm (.inr trivial) ⟨0, [S1, .i c, .i th, S2, .p (row .mem) 0 0, .i 0, .i c, .sl (gr .ls) 0 0 G.n 4 G.n, outG 1 (gr .pu) G.pu.length, outG 1 r1 (G.st.length + 1), outG 1 (gr .go) G.go.length, .b false]⟩
  have e0 : setC gr .st r1 .gm = gr .gm := setC_ne _ _ (by simp)
  rw [e0] at H2
  refine ⟨h1, r1, e, ?_, (A.mem.keep hown).keep fun k hk => List.getElem?_set_ne (by rintro rfl; exact A.dis .gm trivial hk), H2.cast fun τ hτ => ⟨?_, rfl, ?_⟩, fun τ hτ => ?_⟩
  · unfold rowOf; rw [same _ hgm (hne .gm trivial (by simp)).2]
  · cases τ with
    | st => exact .inl rfl
    | _ => exact .inr hτ
  · cases τ with
    | gm =>
      rw [setC_eq]
      simp only [contR, gmC, List.length_append, List.length_singleton]
      rw [setC_eq]
      repeat rw [setC_ne _ _ (by simp)]
    | st => rw [setC_ne _ _ (by simp), setC_eq]; simp [contR]
    | ls =>
      rw [setC_ne _ _ (by simp), setC_ne _ _ (by simp)]
      simp only [contR]
      refine congrArg (Row.mk 0) (cl4_congr fun u hu => ?_)
      rw [qc0, qc1, qc2, qc3, qc0, qc1, qc2, qc3]
      refine ⟨?_, rfl, rfl, rfl⟩
      simp only [opP]; rw [setC_ne _ _ (by simp)]
    | _ => rw [setC_ne _ _ (by simp), setC_ne _ _ (by simp)]; rfl
  · by_cases hx : τ = .st
    · subst hx
      rw [setC_eq]
      rcases hr1 with ⟨hh, rfl⟩ | rfl
      · exact A.dis .st hh
      · exact fun hh => Nat.lt_irrefl _ (A.mem.own hh)
    · rw [setC_ne _ _ hx]
      refine A.dis τ ?_
      cases τ with
      | st => exact absurd rfl hx
      | _ => exact hτ
/-- One more in a list. -/
theorem GAt.gGo (A : GAt S1 S2 c th h G row gr) (x : Int) (hn : G.go.length < 100000) :
    ∃ h1 r1, appE 0 h 1 8 [.i x] 1 (outG 1 (gr .go) G.go.length) = some (outG 1 r1 (G.go.length + 1), h1) ∧ rowOf h1 (gr .gm) 0 = rowOf h (gr .gm) 0 ∧
      GAt S1 S2 c th (h1.set (gr .gm) ⟨0, [S1, .i c, .i th, S2, .p (row .mem) 0 0, .i 0, .i c, .sl (gr .ls) 0 0 G.n 4 G.n, outG 1 (gr .pu) G.pu.length, outG 1 (gr .st) G.st.length, outG 1 r1 (G.go.length + 1), .b false]⟩) { G with go := G.go ++ [x] } row (setC gr .go r1) := by
  obtain ⟨h1, r1, e, H1, hle, same, hr1⟩ := app_hat A.hat .go G.go x (fun hne => ⟨hne, rfl⟩) hn
  have hgm := A.lt (τ := .gm) trivial
  have hne : ∀ τ, liveG G τ → τ ≠ .go → gr τ < h.length ∧ (G.go ≠ [] → gr τ ≠ gr .go) := fun τ hτ hx => ⟨A.lt hτ, fun hh => A.hat.ne hτ (show liveG G .go from hh) hx⟩
  have hown : ∀ k, own G.M row k → h1[k]? = h[k]? := fun k hk => same k (A.mem.own hk) fun hh e => by subst e; exact A.dis .go hh hk
  have H2 := H1.put .gm (.inr trivial) ⟨0, [S1, .i c, .i th, S2, .p (row .mem) 0 0, .i 0, .i c, .sl (gr .ls) 0 0 G.n 4 G.n, outG 1 (gr .pu) G.pu.length, outG 1 (gr .st) G.st.length, outG 1 r1 (G.go.length + 1), .b false]⟩
  have e0 : setC gr .go r1 .gm = gr .gm := setC_ne _ _ (by simp)
  rw [e0] at H2
  refine ⟨h1, r1, e, ?_, (A.mem.keep hown).keep fun k hk => List.getElem?_set_ne (by rintro rfl; exact A.dis .gm trivial hk), H2.cast fun τ hτ => ⟨?_, rfl, ?_⟩, fun τ hτ => ?_⟩
  · unfold rowOf; rw [same _ hgm (hne .gm trivial (by simp)).2]
  · cases τ with
    | go => exact .inl rfl
    | _ => exact .inr hτ
  · cases τ with
    | gm =>
      rw [setC_eq]
      simp only [contR, gmC, List.length_append, List.length_singleton]
      rw [setC_eq]
      repeat rw [setC_ne _ _ (by simp)]
    | go => rw [setC_ne _ _ (by simp), setC_eq]; simp [contR]
    | ls =>
      rw [setC_ne _ _ (by simp), setC_ne _ _ (by simp)]
      simp only [contR]
      refine congrArg (Row.mk 0) (cl4_congr fun u hu => ?_)
      rw [qc0, qc1, qc2, qc3, qc0, qc1, qc2, qc3]
      refine ⟨?_, rfl, rfl, rfl⟩
      simp only [opP]; rw [setC_ne _ _ (by simp)]
    | _ => rw [setC_ne _ _ (by simp), setC_ne _ _ (by simp)]; rfl
  · by_cases hx : τ = .go
    · subst hx
      rw [setC_eq]
      rcases hr1 with ⟨hh, rfl⟩ | rfl
      · exact A.dis .go hh
      · exact fun hh => Nat.lt_irrefl _ (A.mem.own hh)
    · rw [setC_ne _ _ hx]
      refine A.dis τ ?_
      cases τ with
      | go => exact absurd rfl hx
      | _ => exact hτ
end
end Go.Proofs.Ytjoldlaoncdcgaa
