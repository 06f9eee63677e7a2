/- Rows by roles: which row of a heap plays which role, and what is in it. -/
import Derived.Test.YtcmlnjkbdlakfaaEng20
import Derived.Test.YtcmlnjkbdlakfaaAM
set_option linter.unusedSimpArgs false
set_option linter.unusedVariables false
namespace Go.Proofs.Ytcmlnjkbdlakfaa
open Go
theorem rowOf_at {h : List Row} {k v : Nat} {cs : List LV} (e : h[k]? = some ⟨v, cs⟩) : rowOf h k v = some cs := by
  unfold rowOf; rw [e]; simp
theorem lt_at {h : List Row} {k : Nat} {r : Row} (e : h[k]? = some r) : k < h.length := (List.getElem?_eq_some_iff.1 e).1
theorem rowOf_set_eq {h : List Row} {k v : Nat} {cs : List LV} (hk : k < h.length) : rowOf (h.set k ⟨v, cs⟩) k v = some cs := by
  unfold rowOf; rw [List.getElem?_set_self hk]; simp
theorem rowOf_set_ne {h : List Row} {j k v : Nat} {x : Row} (hj : j ≠ k) : rowOf (h.set j x) k v = rowOf h k v := by
  unfold rowOf; rw [List.getElem?_set_ne hj]
theorem rowOf_app_lt {h t : List Row} {k v : Nat} (hk : k < h.length) : rowOf (h ++ t) k v = rowOf h k v := by
  unfold rowOf; rw [List.getElem?_append_left hk]
theorem rowOf_app_eq {h t : List Row} {v : Nat} {cs : List LV} : rowOf (h ++ (⟨v, cs⟩ :: t)) h.length v = some cs := by
  unfold rowOf; rw [List.getElem?_append_right (Nat.le_refl _)]; simp
theorem set_app_lt {h t : List Row} {k : Nat} {x : Row} (hk : k < h.length) : (h ++ t).set k x = h.set k x ++ t := List.set_append_left _ _ hk
/-! ### rows by roles -/
structure HAt {T : Type} (h : List Row) (live : T → Prop) (row : T → Nat) (c : T → Row) : Prop where
  at' : ∀ τ, live τ → h[row τ]? = some (c τ)
  inj : ∀ τ τ', live τ → live τ' → row τ = row τ' → τ = τ'
section
variable {T : Type} {h : List Row} {live live' : T → Prop} {row row' : T → Nat} {c c' : T → Row}
theorem HAt.lt (H : HAt h live row c) {τ : T} (hl : live τ) : row τ < h.length := lt_at (H.at' τ hl)
theorem HAt.ne (H : HAt h live row c) {τ τ' : T} (hl : live τ) (hl' : live τ') (hn : τ ≠ τ') : row τ ≠ row τ' := fun e => hn (H.inj τ τ' hl hl' e)
theorem HAt.set (H : HAt h live row c) (τ0 : T) (hl : live τ0) {x : Row} (hx : c' τ0 = x) (hlive : ∀ τ, live' τ → live τ) (hc : ∀ τ, live' τ → τ ≠ τ0 → c' τ = c τ) : HAt (h.set (row τ0) x) live' row c' := by
  refine ⟨fun τ ht => ?_, fun τ τ' h1 h2 => H.inj τ τ' (hlive _ h1) (hlive _ h2)⟩
  by_cases hτ : τ = τ0
  · subst hτ; rw [List.getElem?_set_self (H.lt hl), hx]
  · rw [List.getElem?_set_ne (H.ne hl (hlive _ ht) (Ne.symm hτ)), hc τ ht hτ]; exact H.at' τ (hlive _ ht)
theorem HAt.new (H : HAt h live row c) (τ0 : T) {x : Row} (hx : c' τ0 = x) (h0 : row' τ0 = h.length) (hr : ∀ τ, live' τ → τ ≠ τ0 → live τ ∧ row' τ = row τ ∧ c' τ = c τ) : HAt (h ++ [x]) live' row' c' := by
  refine ⟨fun τ ht => ?_, fun τ τ' h1 h2 e => ?_⟩
  · by_cases hτ : τ = τ0
    · subst hτ; rw [h0, List.getElem?_append_right (Nat.le_refl _), hx]; simp
    · obtain ⟨a, b, d⟩ := hr τ ht hτ
      rw [b, d, List.getElem?_append_left (H.lt a)]; exact H.at' τ a
  · by_cases hτ : τ = τ0 <;> by_cases hτ' : τ' = τ0
    · rw [hτ, hτ']
    · subst hτ
      obtain ⟨a, b, _⟩ := hr τ' h2 hτ'
      have := H.lt a; omega
    · subst hτ'
      obtain ⟨a, b, _⟩ := hr τ h1 hτ
      have := H.lt a; omega
    · obtain ⟨a, b, _⟩ := hr τ h1 hτ
      obtain ⟨a', b', _⟩ := hr τ' h2 hτ'
      exact H.inj τ τ' a a' (by omega)
theorem HAt.congr (H : HAt h live row c) {h' : List Row} (hh : ∀ τ, live' τ → live τ ∧ h'[row τ]? = h[row τ]? ∧ c' τ = c τ) : HAt h' live' row c' :=
  ⟨fun τ ht => by obtain ⟨a, b, d⟩ := hh τ ht; rw [b, d]; exact H.at' τ a, fun τ τ' h1 h2 => H.inj τ τ' (hh τ h1).1 (hh τ' h2).1⟩
end
/-! ### the same, step by step -/
section
variable {T : Type} [DecidableEq T] {h : List Row} {live live' : T → Prop} {row row' : T → Nat} {c c' : T → Row}
def setC {α : Type} (c : T → α) (τ0 : T) (x : α) : T → α := fun τ => if τ = τ0 then x else c τ
theorem setC_eq {α : Type} (c : T → α) (τ0 : T) (x : α) : setC c τ0 x τ0 = x := if_pos rfl
theorem setC_ne {α : Type} (c : T → α) {τ0 τ : T} (x : α) (hn : τ ≠ τ0) : setC c τ0 x τ = c τ := if_neg hn
theorem HAt.put (H : HAt h live row c) (τ0 : T) (hl : live τ0) (x : Row) : HAt (h.set (row τ0) x) live row (setC c τ0 x) :=
  H.set τ0 hl (setC_eq _ _ _) (fun _ h => h) fun τ _ hn => setC_ne _ _ hn
theorem HAt.push (H : HAt h live row c) (τ0 : T) (x : Row) : HAt (h ++ [x]) (fun τ => τ = τ0 ∨ live τ) (setC row τ0 h.length) (setC c τ0 x) :=
  H.new τ0 (setC_eq _ _ _) (setC_eq _ _ _) fun τ ht hn => ⟨ht.resolve_left hn, setC_ne _ _ hn, setC_ne _ _ hn⟩
omit [DecidableEq T] in
theorem HAt.cast (H : HAt h live row c) (hh : ∀ τ, live' τ → live τ ∧ row' τ = row τ ∧ c' τ = c τ) : HAt h live' row' c' :=
  ⟨fun τ ht => by obtain ⟨a, b, d⟩ := hh τ ht; rw [b, d]; exact H.at' τ a, fun τ τ' h1 h2 e => H.inj τ τ' (hh τ h1).1 (hh τ' h2).1 (by rw [← (hh τ h1).2.1, ← (hh τ' h2).2.1]; exact e)⟩
end
/-- What an operation on rows of its own leaves as it was: own, own': its rows ahead and behind. -/
structure Frm (own own' : Nat → Prop) (h h' : List Row) : Prop where
  le : h.length ≤ h'.length
  same : ∀ k, k < h.length → ¬ own k → h'[k]? = h[k]?
  sub : ∀ k, own' k → own k ∨ h.length ≤ k
theorem Frm.refl (own : Nat → Prop) (h : List Row) : Frm own own h h := ⟨Nat.le_refl _, fun _ _ _ => rfl, fun _ h => .inl h⟩
theorem Frm.put {own own' : Nat → Prop} {h : List Row} {k : Nat} (hk : own k) (hs : ∀ k, own' k → own k) (x : Row) : Frm own own' h (h.set k x) :=
  ⟨by simp, fun j _ ho => by rw [List.getElem?_set_ne]; rintro rfl; exact ho hk, fun k h => .inl (hs k h)⟩
theorem Frm.push {own own' : Nat → Prop} {h : List Row} (t : List Row) (hs : ∀ k, own' k → own k ∨ h.length ≤ k) : Frm own own' h (h ++ t) :=
  ⟨by simp, fun j hj _ => List.getElem?_append_left hj, hs⟩
theorem Frm.same' {own own' : Nat → Prop} {h : List Row} (hs : ∀ k, own' k → own k) : Frm own own' h h := ⟨Nat.le_refl _, fun _ _ _ => rfl, fun k h => .inl (hs k h)⟩
theorem Frm.trans {o1 o2 o3 : Nat → Prop} {h1 h2 h3 : List Row} (a : Frm o1 o2 h1 h2) (b : Frm o2 o3 h2 h3) : Frm o1 o3 h1 h3 := by
  refine ⟨Nat.le_trans a.le b.le, fun k hk ho => ?_, fun k hk => ?_⟩
  · rw [b.same k (Nat.lt_of_lt_of_le hk a.le) (fun h => ?_)]
    · exact a.same k hk ho
    · rcases a.sub k h with h | h
      · exact ho h
      · omega
  · rcases b.sub k hk with h | h
    · exact a.sub k h
    · exact .inr (Nat.le_trans a.le h)
/-- Rows of others are none of these, and stay so. -/
theorem Frm.apart {o o' : Nat → Prop} {h h' : List Row} (a : Frm o o' h h') {k : Nat} (hk : k < h.length) (ho : ¬ o k) : ¬ o' k := fun hh => by
  rcases a.sub k hh with h | h
  · exact ho h
  · omega
/-! ### rows of ints -/
def vec (n : Nat) (f : Nat → Int) : List LV := (List.range n).map fun u => .i (f u)
def vs (k n : Nat) : LV := .sl k 0 0 n 1 n
theorem vec_length (n : Nat) (f : Nat → Int) : (vec n f).length = n := by simp [vec]
theorem vec_get {n : Nat} {f : Nat → Int} {i : Nat} (h : i < n) : (vec n f)[i]? = some (.i (f i)) := by simp [vec, h]
theorem vec_congr {n : Nat} {f g : Nat → Int} (h : ∀ i, i < n → f i = g i) : vec n f = vec n g := by
  unfold vec; exact List.map_congr_left fun i hi => by rw [h i (List.mem_range.1 hi)]
theorem vec_ints (n : Nat) (f : Nat → Int) : vec n f = ((List.range n).map f).map LV.i := by simp [vec, Function.comp_def]
theorem vec_closed (n : Nat) (f : Nat → Int) : closedL (vec n f) = true := by rw [vec_ints]; exact closedL_ints _
theorem vec_atom (n : Nat) (f : Nat → Int) : (vec n f).all atomB = true := by simp [vec, List.all_eq_true, atomB, Value.oneCell']
theorem vec_take (n : Nat) (f : Nat → Int) : List.take n (vec n f) = vec n f := List.take_of_length_le (by rw [vec_length]; exact Nat.le_refl _)
theorem vec_zero (f : Nat → Int) : vec 0 f = [] := rfl
theorem vput {n : Nat} {f : Nat → Int} {u : Nat} {x : Int} (h : u < n) : List.take u (vec n f) ++ [LV.i x] ++ List.drop (u + 1) (vec n f) = vec n (upd f u x) := by
  rw [List.append_assoc, List.cons_append, List.nil_append]
  refine List.ext_getElem? fun i => ?_
  rw [List.getElem?_append]
  have hl : (List.take u (vec n f)).length = u := by rw [List.length_take, vec_length]; omega
  rw [hl]
  by_cases hi : i < u
  · rw [if_pos hi, List.getElem?_take, if_pos hi, vec_get (by omega), vec_get (by omega), upd_ne _ _ (by omega)]
  · rw [if_neg hi]
    by_cases he : i = u
    · subst he; rw [Nat.sub_self, vec_get h, upd_same]; rfl
    · rw [show i - u = (i - u - 1) + 1 by omega, List.getElem?_cons_succ, List.getElem?_drop, show u + 1 + (i - u - 1) = i by omega]
      by_cases hn : i < n
      · rw [vec_get hn, vec_get hn, upd_ne _ _ he]
      · rw [List.getElem?_eq_none (by rw [vec_length]; omega), List.getElem?_eq_none (by rw [vec_length]; omega)]
theorem repC_ints (n : Int) : ∀ m, repC [.i n] m = (List.replicate m n).map LV.i
  | 0 => rfl
  | m + 1 => by simp [repC, repC_ints n m, List.replicate_succ]
theorem repC_vec (n : Int) (m : Nat) : repC [.i n] m = vec m fun _ => n := by
  rw [repC_ints, vec_ints]
  congr 1
  refine List.ext_getElem (by simp) fun i h1 h2 => by simp
theorem vec_noim : ∀ (n : Nat) (f : Nat → Int), noimL (vec n f) = true := by
  intro n f
  rw [vec_ints]
  generalize (List.range n).map f = l
  induction l with
  | nil => rfl
  | cons x l ih => simp [noimL, noim, ih]
theorem vec_shLs (m : Nat) (n : Nat) (f : Nat → Int) : shLs m (vec n f) = vec n f := by
  rw [vec_ints]
  generalize (List.range n).map f = l
  induction l with
  | nil => rfl
  | cons x l ih => simp [shLs, shL, ih]
theorem vec_eq (n : Nat) (f : Nat → Int) : eqLs (vec n f) (vec n f) = true := by
  rw [vec_ints]
  generalize (List.range n).map f = l
  induction l with
  | nil => rfl
  | cons x l ih => simp [eqLs, eqLV, eqV, ih]
/-! ### rows of things of two cells -/
def prs (n : Nat) (f g : Nat → LV) : List LV := (List.range (n * 2)).map fun j => if j % 2 = 0 then f (j / 2) else g (j / 2)
theorem prs_length (n : Nat) (f g : Nat → LV) : (prs n f g).length = n * 2 := by simp [prs]
theorem prs_fst {n : Nat} {f g : Nat → LV} {i : Nat} (h : i < n) : (prs n f g)[i * 2]? = some (f i) := by
  have : i * 2 < n * 2 := by omega
  simp [prs, this]
theorem prs_snd {n : Nat} {f g : Nat → LV} {i : Nat} (h : i < n) : (prs n f g)[i * 2 + 1]? = some (g i) := by
  have h1 : i * 2 + 1 < n * 2 := by omega
  have h2 : (i * 2 + 1) % 2 = 1 := by omega
  have h3 : (i * 2 + 1) / 2 = i := by omega
  simp [prs, h1, h2, h3]
theorem prs_at {n : Nat} {f g : Nat → LV} {j : Nat} (h : j < n * 2) : (prs n f g)[j]? = some (if j % 2 = 0 then f (j / 2) else g (j / 2)) := by simp [prs, h]
theorem prs_ext {n : Nat} {f g : Nat → LV} {l : List LV} (hl : l.length = n * 2) (h : ∀ j, j < n * 2 → l[j]? = some (if j % 2 = 0 then f (j / 2) else g (j / 2))) : l = prs n f g := by
  refine List.ext_getElem? fun j => ?_
  by_cases hj : j < n * 2
  · rw [h j hj, prs_at hj]
  · rw [List.getElem?_eq_none (by omega), List.getElem?_eq_none (by rw [prs_length]; omega)]
theorem prs_congr {n : Nat} {f g f' g' : Nat → LV} (h : ∀ i, i < n → f i = f' i ∧ g i = g' i) : prs n f g = prs n f' g' := by
  refine prs_ext (prs_length _ _ _) fun j hj => ?_
  rw [prs_at hj]
  have := h (j / 2) (by omega)
  rw [this.1, this.2]
theorem prs_put {n : Nat} {f g : Nat → LV} {u : Nat} {x y : LV} (h : u < n) : List.take (u * 2) (prs n f g) ++ [x, y] ++ List.drop (u * 2 + 2) (prs n f g) = prs n (upd f u x) (upd g u y) := by
  rw [List.append_assoc, List.cons_append, List.cons_append, List.nil_append]
  refine prs_ext (by simp [prs_length]; omega) fun j hj => ?_
  rw [List.getElem?_append]
  have hl : (List.take (u * 2) (prs n f g)).length = u * 2 := by rw [List.length_take, prs_length]; omega
  rw [hl]
  by_cases hi : j < u * 2
  · rw [if_pos hi, List.getElem?_take, if_pos hi, prs_at (by omega), upd_ne _ _ (by omega), upd_ne _ _ (by omega)]
  · rw [if_neg hi]
    by_cases h0 : j = u * 2
    · subst h0; rw [Nat.sub_self, if_pos (by omega), show u * 2 / 2 = u by omega, upd_same]; rfl
    · by_cases h1 : j = u * 2 + 1
      · subst h1; rw [show u * 2 + 1 - u * 2 = 1 by omega, if_neg (by omega), show (u * 2 + 1) / 2 = u by omega, upd_same]; rfl
      · rw [show j - u * 2 = (j - u * 2 - 2) + 1 + 1 by omega, List.getElem?_cons_succ, List.getElem?_cons_succ, List.getElem?_drop, show u * 2 + 2 + (j - u * 2 - 2) = j by omega, prs_at hj, upd_ne _ _ (by omega), upd_ne _ _ (by omega)]
theorem prs_put1 {n : Nat} {f g : Nat → LV} {u : Nat} {x : LV} (h : u < n) : List.take (u * 2) (prs n f g) ++ [x] ++ List.drop (u * 2 + 1) (prs n f g) = prs n (upd f u x) g := by
  rw [List.append_assoc, List.cons_append, List.nil_append]
  refine prs_ext (by simp [prs_length]; omega) fun j hj => ?_
  rw [List.getElem?_append]
  have hl : (List.take (u * 2) (prs n f g)).length = u * 2 := by rw [List.length_take, prs_length]; omega
  rw [hl]
  by_cases hi : j < u * 2
  · rw [if_pos hi, List.getElem?_take, if_pos hi, prs_at (by omega), upd_ne _ _ (by omega)]
  · rw [if_neg hi]
    by_cases h0 : j = u * 2
    · subst h0; rw [Nat.sub_self, if_pos (by omega), show u * 2 / 2 = u by omega, upd_same]; rfl
    · rw [show j - u * 2 = (j - u * 2 - 1) + 1 by omega, List.getElem?_cons_succ, List.getElem?_drop, show u * 2 + 1 + (j - u * 2 - 1) = j by omega, prs_at hj]
      by_cases h1 : j % 2 = 0
      · rw [if_pos h1, if_pos h1, upd_ne _ _ (by omega)]
      · rw [if_neg h1, if_neg h1]
theorem prs_put2 {n : Nat} {f g : Nat → LV} {u : Nat} {x : LV} (h : u < n) : List.take (u * 2 + 1) (prs n f g) ++ [x] ++ List.drop (u * 2 + 1 + 1) (prs n f g) = prs n f (upd g u x) := by
  rw [List.append_assoc, List.cons_append, List.nil_append]
  refine prs_ext (by simp [prs_length]; omega) fun j hj => ?_
  rw [List.getElem?_append]
  have hl : (List.take (u * 2 + 1) (prs n f g)).length = u * 2 + 1 := by rw [List.length_take, prs_length]; omega
  rw [hl]
  by_cases hi : j < u * 2 + 1
  · rw [if_pos hi, List.getElem?_take, if_pos hi, prs_at (by omega)]
    by_cases h1 : j % 2 = 0
    · rw [if_pos h1, if_pos h1]
    · rw [if_neg h1, if_neg h1, upd_ne _ _ (by omega)]
  · rw [if_neg hi]
    by_cases h0 : j = u * 2 + 1
    · subst h0; rw [Nat.sub_self, if_neg (by omega), show (u * 2 + 1) / 2 = u by omega, upd_same]; rfl
    · rw [show j - (u * 2 + 1) = (j - (u * 2 + 1) - 1) + 1 by omega, List.getElem?_cons_succ, List.getElem?_drop, show u * 2 + 1 + 1 + (j - (u * 2 + 1) - 1) = j by omega, prs_at hj]
      by_cases h1 : j % 2 = 0
      · rw [if_pos h1, if_pos h1]
      · rw [if_neg h1, if_neg h1, upd_ne _ _ (by omega)]
theorem repC_prs (x y : LV) : ∀ n, repC [x, y] n = prs n (fun _ => x) (fun _ => y) := by
  intro n
  refine prs_ext ?_ ?_
  · induction n with
    | zero => rfl
    | succ n ih => simp only [repC, List.length_append, ih, List.length_cons, List.length_nil]; omega
  · induction n with
    | zero => intro j hj; omega
    | succ n ih =>
      intro j hj
      simp only [repC]
      match j, hj with
      | 0, _ => rfl
      | 1, _ => rfl
      | j + 2, hj =>
        show (repC [x, y] n)[j]? = _
        rw [ih j (by omega), show (j + 2) % 2 = j % 2 by omega]
end Go.Proofs.Ytcmlnjkbdlakfaa
