/- Something is added to a slice: in place or in a new row, the old slice is gone either way. -/
import Derived.Test.YtjgnjpbplnmdmaaEng5
import Derived.Laws.Append
import Derived.Laws.AppendOwn
namespace Go.Proofs.Ytjgnjpbplnmdmaa
open Go Go.RowKit

section
variable {P : Program} {o : Oper} {a : Act} {t : List LV} {h h' : List Row} {lim B : Nat} {C : Cx} {l : LV}

theorem cApp_inv {c : Call} {m : MOp} (hm : cApp P c = some m) : ∃ x y ty e i z mx my, c.args = #[x, y] ∧ c.argTypes = #[ty, ty] ∧ P.underlying ty = some (.slice e) ∧ P.info? e = some i ∧ i.zero = some z ∧ z.cells.size = i.size ∧ cO x = some mx ∧ cO y = some my ∧ m = .app mx my i.size i.bytes := by
  unfold cApp at hm
  split at hm
  · rename_i x y ty ty' hargs hty
    split at hm
    · rename_i heq
      subst heq
      split at hm
      · rename_i e hd
        split at hm
        · rename_i i hi
          split at hm
          · rename_i z hz
            split at hm
            · rename_i hc
              split at hm
              · rename_i mx my h1 h2
                simp at hm
                exact ⟨x, y, ty, e, i, z, mx, my, by rw [← Array.toArray_toList (xs := c.args), hargs], by rw [← Array.toArray_toList (xs := c.argTypes), hty], hd, hi, hz, hc.1, h1, h2, hm.symm⟩
              · simp at hm
            · simp at hm
          · simp at hm
        · simp at hm
      · simp at hm
    · simp at hm
  · simp at hm

theorem run_append_room' (w : World) (t ty e : TypeId) (i : TypeInfo) (ht : P.underlying t = some (.slice e)) (hi : P.info? e = some i)
    (g q sLen sCap : Nat) (cur : Array Value) (tt : TypeId) (hg : w.heap[g]? = some (.cells cur tt (0, 0)))
    (a : Addr) (m c : Nat) (news : List Value) (hl : news.length = m * i.size) (hnews : ∀ j u, news[j]? = some u → w.cell? (a.add j) = some u) (h1 : ∀ u ∈ news, u.oneCell' = true)
    (hroom : sLen + m ≤ sCap) (hfit : q + sLen * i.size + news.length ≤ cur.size) :
    (Builtin.append_ #[t, t] ty #[.slice (some ⟨g, q, none⟩) sLen sCap, .slice (some a) m c]).run P w =
      .ok (.slice (some ⟨g, q, none⟩) (sLen + m) sCap) (w.setRow g (cur.toList.take (q + sLen * i.size) ++ news ++ cur.toList.drop (q + sLen * i.size + news.length)).toArray) := by
  have hf := run_firstCells_some (P := P) w i.size m a m c news hl hnews
  have hst := run_storeCells_at P g (q + sLen * i.size) tt news 0 cur w hg (by simpa using hfit) h1
  simp only [Nat.add_zero] at hst
  simp [Builtin.append_, run_underlying ht, sizeOf, typeInfo, hi, Builtin.lenOf, hroom, hf, addr_add, hst]

/-- A row in a new version, where it was or in a new block. -/
theorem Rel.bump {k ver b q g o' : Nat} {cs ys : List LV} {us : Array Value} {tt : TypeId} {w' : World} (hr : Rel C B h) (h1 : C.ρ[k]? = some (some (b, q))) (h3 : h[k]? = some ⟨ver, cs⟩)
    (hgb : (g = b ∧ o' = q) ∨ C.w.heap.size ≤ g) (hb : Below B C.w w') (hsame : ∀ i, i < C.w.heap.size → i ≠ g → w'.heap[i]? = C.w.heap[i]?) (hg : w'.heap[g]? = some (.cells us tt (0, 0))) (hBg : B ≤ g) (hsz : C.w.heap.size ≤ w'.heap.size)
    (hlen : o' + ys.length ≤ us.size) (hys : ∀ (i : Nat) c, ys[i]? = some c → ∃ u, us[o' + i]? = some u ∧ Conc C c u) (hk : lim ≤ k) :
    Rel ⟨C.ρ.set k (some (g, o')), C.vs.set k (ver + 1), C.X, w'⟩ B (h.set k ⟨ver + 1, ys⟩) ∧ Le B C ⟨C.ρ.set k (some (g, o')), C.vs.set k (ver + 1), C.X, w'⟩ ∧ Fr lim C ⟨C.ρ.set k (some (g, o')), C.vs.set k (ver + 1), C.X, w'⟩ := by
  have hkl : k < h.length := (List.getElem?_eq_some_iff.1 h3).1
  have hρl : k < C.ρ.length := by rw [hr.len]; exact hkl
  have hvl : k < C.vs.length := by rw [hr.vs]; simpa using hkl
  have hvk : C.vs[k]? = some ver := by rw [hr.vs, List.getElem?_map, h3]; rfl
  have hold : ∀ (k b q : Nat), C.ρ[k]? = some (some (b, q)) → b < C.w.heap.size := by
    intro k b q hk
    have hlt : k < h.length := by rw [← hr.len]; exact (List.getElem?_eq_some_iff.1 hk).1
    obtain ⟨_, us, tt, e, _⟩ := hr.row k b q h[k] hk (by simp [hlt])
    exact (Array.getElem?_eq_some_iff.1 e).1
  have hne : ∀ (k' b' q' : Nat), k' ≠ k → C.ρ[k']? = some (some (b', q')) → b' ≠ g := by
    intro k' b' q' hkk e hbg
    rcases hgb with ⟨hgb, _⟩ | hgb
    · exact hkk (hr.inj k' k b' q' q e (by rw [hbg, hgb]; exact h1))
    · have := hold _ _ _ e; omega
  have hset : ∀ (k' : Nat) x, (C.ρ.set k (some (g, o')))[k']? = some x → (k' = k ∧ x = some (g, o')) ∨ (k' ≠ k ∧ C.ρ[k']? = some x) := by
    intro k' x e
    rw [List.getElem?_set] at e
    by_cases hkk : k = k'
    · subst hkk; simp [hρl] at e; exact .inl ⟨rfl, e.symm⟩
    · rw [if_neg hkk] at e; exact .inr ⟨fun h => hkk h.symm, e⟩
  have hcl : ∀ (b' off : Nat) u, C.w.cell? ⟨b', off, none⟩ = some u → b' < C.w.heap.size := fun b' off u e3 => by
    rcases Nat.lt_or_ge b' C.w.heap.size with h | h
    · exact h
    · unfold World.cell? at e3
      simp [Array.getElem?_eq_none h] at e3
  have hle : Le B C ⟨C.ρ.set k (some (g, o')), C.vs.set k (ver + 1), C.X, w'⟩ := by
    refine ⟨rfl, fun k' ver' b' o'' e1 e2 => ?_, fun k' cur e => ?_, fun b' off u e1 e2 e3 => ?_, hb, fun k' e => ?_⟩
    · by_cases hkk : k' = k
      · subst hkk
        rw [hvk] at e2
        cases e2
        refine .inr ⟨ver + 1, ?_, by omega⟩
        show (C.vs.set k' (ver + 1))[k']? = _
        simp [hvl]
      · refine .inl ⟨?_, ?_, fun n hn => ?_⟩
        · show (C.ρ.set k _)[k']? = _
          rw [List.getElem?_set, if_neg (fun h => hkk h.symm)]; exact e1
        · show (C.vs.set k _)[k']? = _
          rw [List.getElem?_set, if_neg (fun h => hkk h.symm)]; exact e2
        · obtain ⟨vs, t', e, hs⟩ := hn
          exact ⟨vs, t', by show w'.heap[b']? = _; rw [hsame b' (hold _ _ _ e1) (hne _ _ _ hkk e1)]; exact e, hs⟩
    · by_cases hkk : k' = k
      · subst hkk
        rw [hvk] at e
        cases e
        exact ⟨ver + 1, by show (C.vs.set k' (ver + 1))[k']? = _; simp [hvl], by omega⟩
      · exact ⟨cur, by show (C.vs.set k _)[k']? = _; rw [List.getElem?_set, if_neg (fun h => hkk h.symm)]; exact e, Nat.le_refl _⟩
    · have hlt := hcl b' off u e3
      have hbg : b' ≠ g := fun h => by
        rcases hgb with ⟨hgb, _⟩ | hgb
        · exact e1 ⟨k, q, by rw [h, hgb]; exact h1⟩
        · omega
      refine ⟨?_, ?_⟩
      · show w'.cell? _ = _
        rw [World.cell?_of_block (w := C.w) (hsame b' hlt hbg)]; exact e3
      · rintro ⟨k', q', e⟩
        rcases hset k' _ e with ⟨_, hx⟩ | ⟨_, hx⟩
        · cases hx; exact hbg rfl
        · exact e1 ⟨k', q', hx⟩
    · show (C.ρ.set k _)[k']? = _
      rw [List.getElem?_set]
      by_cases hkk : k = k'
      · subst hkk; rw [h1] at e; cases e
      · rw [if_neg hkk]; exact e
  refine ⟨⟨by simpa using hr.len, ?_, ?_, ?_, ?_, Nat.le_trans hr.size hsz⟩, hle, ?_⟩
  · show C.vs.set k (ver + 1) = (h.set k ⟨ver + 1, ys⟩).map Row.ver
    rw [List.map_set, ← hr.vs]
  · intro k1 k2 b1 o1 o2 e1 e2
    rcases hset k1 _ e1 with ⟨a1, a2⟩ | ⟨a1, a2⟩ <;> rcases hset k2 _ e2 with ⟨c1, c2⟩ | ⟨c1, c2⟩
    · rw [a1, c1]
    · cases a2; exact absurd rfl (hne _ _ _ c1 c2)
    · cases c2; exact absurd rfl (hne _ _ _ a1 a2)
    · exact hr.inj k1 k2 b1 o1 o2 a2 c2
  · intro k1 b1 o1 r e1 e2
    rw [List.getElem?_set] at e2
    rcases hset k1 _ e1 with ⟨a1, a2⟩ | ⟨a1, a2⟩
    · subst a1
      cases a2
      simp [hkl] at e2
      subst e2
      refine ⟨hBg, us, tt, hg, hlen, fun i c hi => ?_⟩
      obtain ⟨u, x1, x2⟩ := hys i c hi
      exact ⟨u, x1, x2.mono hle⟩
    · rw [if_neg (fun h => a1 h.symm)] at e2
      obtain ⟨x1, vs, t', x2, x3, x4⟩ := hr.row k1 b1 o1 r a2 e2
      refine ⟨x1, vs, t', ?_, x3, fun i c hi => ?_⟩
      · show w'.heap[b1]? = _
        rw [hsame b1 (hold _ _ _ a2) (hne _ _ _ a1 a2)]; exact x2
      · obtain ⟨u, y1, y2⟩ := x4 i c hi
        exact ⟨u, y1, y2.mono hle⟩
  · intro b' hx
    refine ⟨Nat.lt_of_lt_of_le (hr.X b' hx).1 hsz, ?_⟩
    rintro ⟨k', q', e⟩
    rcases hset k' _ e with ⟨_, a2⟩ | ⟨_, a2⟩
    · cases a2
      rcases hgb with ⟨hgb, _⟩ | hgb
      · exact (hr.X _ hx).2 ⟨k, q, by rw [hgb]; exact h1⟩
      · have := (hr.X _ hx).1; omega
    · exact (hr.X b' hx).2 ⟨k', q', a2⟩
  · refine ⟨fun b' hlt hno => hsame b' hlt fun hbg => ?_, fun k' b' q' e1 e2 e3 => ?_, hsz⟩
    · rcases hgb with ⟨hgb, _⟩ | hgb
      · exact hno k q hk (by rw [hbg, hgb]; exact h1)
      · omega
    · rcases hset k' _ e2 with ⟨a1, a2⟩ | ⟨_, a2⟩
      · cases a2
        rcases hgb with ⟨hgb, _⟩ | hgb
        · exact ⟨k, q, hk, by rw [hgb]; exact h1⟩
        · omega
      · exact ⟨k', q', e1, a2⟩

/-- A new row with room to spare. -/
theorem Rel.pushRoom {cs : List LV} {us : Array Value} {ty : TypeId} (hr : Rel C B h) (hl : cs.length ≤ us.size) (hc : ∀ (i : Nat) c u, cs[i]? = some c → us[i]? = some u → Conc C c u) :
    Rel ⟨C.ρ ++ [some (C.w.heap.size, 0)], C.vs ++ [0], C.X, C.w.alloc (.cells us ty (0, 0))⟩ B (h ++ [⟨0, cs⟩]) ∧ Le B C ⟨C.ρ ++ [some (C.w.heap.size, 0)], C.vs ++ [0], C.X, C.w.alloc (.cells us ty (0, 0))⟩ := by
  obtain ⟨p1, p2⟩ := Rel.push (cs := cs ++ List.replicate (us.size - cs.length) .bad) (us := us) (ty := ty) hr ⟨by simp; omega, fun i c u e1 e2 => by
    rw [List.getElem?_append] at e1
    split at e1
    · exact hc i c u e1 (by simpa using e2)
    · have := List.mem_of_getElem? e1
      obtain rfl := List.eq_of_mem_replicate this
      exact .bad u⟩
  refine ⟨⟨by simpa using p1.len, by rw [p1.vs]; simp, p1.inj, fun k b o r e1 e2 => ?_, p1.X, p1.size⟩, p2⟩
  rw [List.getElem?_append] at e2
  by_cases hk : k < h.length
  · rw [if_pos hk] at e2
    exact p1.row k b o r e1 (by rw [List.getElem?_append_left hk]; exact e2)
  · rw [if_neg hk] at e2
    have hkk : k - h.length = 0 := by
      have := (List.getElem?_eq_some_iff.1 e2).1
      simp at this
      omega
    rw [hkk] at e2
    simp at e2
    subst e2
    obtain ⟨x1, vs, tt, x2, x3, x4⟩ := p1.row k b o ⟨0, cs ++ List.replicate (us.size - cs.length) .bad⟩ e1 (by rw [List.getElem?_append_right (by omega), hkk]; rfl)
    refine ⟨x1, vs, tt, x2, by simp at x3; simp; omega, fun i c hi => x4 i c ?_⟩
    rw [List.getElem?_append_left (List.getElem?_eq_some_iff.1 hi).1]
    exact hi

/-- What is added, in memory. -/
theorem im_news {new : List LV} {m : Nat} {full : Bool} {u : Value} {size : Nat} (hy : Conc C (.im new m full) u) (hn : new.length = m * size) (hat : new.all atomB = true) :
    ∃ (ad : Addr) (c : Nat) (news : List Value), u = .slice (some ad) m c ∧ m ≤ c ∧ (full = true → c = m) ∧ news.length = m * size ∧ (∀ (j : Nat) v, news[j]? = some v → C.w.cell? (ad.add j) = some v) ∧ (∀ v ∈ news, v.oneCell' = true) ∧ ∀ (i : Nat) c v, new[i]? = some c → news[i]? = some v → Conc C c v := by
  obtain ⟨b, q, c, us, rfl, h1, h2, h3, h4⟩ := hy.im_inv
  have hget : ∀ (j : Nat) v, ((List.range new.length).map us)[j]? = some v → j < new.length ∧ v = us j := by
    intro j v hj
    simp only [List.getElem?_map, Option.map_eq_some_iff] at hj
    obtain ⟨j', hj', rfl⟩ := hj
    obtain ⟨hl, e⟩ := List.getElem?_eq_some_iff.1 hj'
    simp at hl e
    exact ⟨hl, by rw [e]⟩
  refine ⟨⟨b, q, none⟩, c, (List.range new.length).map us, rfl, h1, h2, by simpa using hn, fun j v hj => ?_, fun v hv => ?_, fun i e v h5 h6 => ?_⟩
  · obtain ⟨hl, rfl⟩ := hget j v hj
    rw [addr_add]
    exact (h3 j new[j] (by simp [hl])).2.2
  · obtain ⟨j, hj, rfl⟩ := List.getElem_of_mem hv
    simp at hj
    simp only [List.getElem_map, List.getElem_range]
    exact atom_one (h4 j new[j] (by simp [hj])) (List.all_eq_true.1 hat _ (List.getElem_mem _))
  · obtain ⟨hl, rfl⟩ := hget i v h6
    exact h4 i e h5

theorem push_done {cs : List LV} {us : Array Value} {e : TypeId} {m cap esz : Nat} {w1 : World} (hw1 : w1 = C.w.drew) (hr : Rel C B h) (hl : cs.length ≤ us.size) (hc : ∀ (i : Nat) c u, cs[i]? = some c → us[i]? = some u → Conc C c u) (hm : m ≤ cap) (hcap : cap * esz ≤ us.size)
    (hrun : (execOp a.eval o).run P C.w = .ok (.value (.slice (some ⟨C.w.heap.size, 0, none⟩) m cap)) (w1.alloc (.cells us e (0, 0)))) :
    Done P ((execOp a.eval o).run P C.w) (OpPost B lim C h false (.sl h.length 0 0 m esz m) (h ++ [⟨0, cs⟩])) := by
  subst hw1
  have hbd : Below C.w.heap.size C.w C.w.drew := (Below.refl _ _).drew
  have hr1 : Rel { C with w := C.w.drew } B h := hr.grow hbd
  have hle1 : Le B C { C with w := C.w.drew } := Le.grow hr.size hbd
  obtain ⟨p1, p2⟩ := Rel.pushRoom (C := { C with w := C.w.drew }) (cs := cs) (us := us) (ty := e) hr1 hl (fun i c u h1 h2 => (hc i c u h1 h2).mono hle1)
  rw [hrun]
  have hsz : C.w.drew.heap.size = C.w.heap.size := rfl
  refine ⟨_, rfl, ?_, p1, hle1.trans p2, ?_, fun h => by simp at h⟩
  · have : Conc (Cx.mk (C.ρ ++ [some (C.w.drew.heap.size, 0)]) (C.vs ++ [0]) C.X (C.w.drew.alloc (.cells us e (0, 0)))) (.sl h.length 0 0 m esz m) (.slice (some ⟨C.w.heap.size, 0 + 0, none⟩) m cap) := by
      refine Conc.sl (o := 0) ?_ ?_ ⟨Nat.le_refl _, hm⟩ ⟨us, e, ?_, by simpa using hcap⟩
      · show (C.ρ ++ _)[h.length]? = _
        rw [← hr.len, List.getElem?_append_right (Nat.le_refl _)]
        simp [hsz]
      · show (C.vs ++ _)[h.length]? = _
        have : C.vs.length = h.length := by rw [hr.vs]; simp
        rw [← this, List.getElem?_append_right (Nat.le_refl _)]
        simp
      · exact heap_alloc_new C.w.drew (.cells us e (0, 0))
    exact this
  · have hbelow : Below C.w.heap.size C.w (C.w.drew.alloc (.cells us e (0, 0))) := hbd.alloc (Nat.le_refl _) _
    refine ⟨fun b hlt _ => hbelow.block b hlt, fun k b q e1 e2 e3 => ?_, hbelow.size⟩
    · have e2' : (C.ρ ++ [some (C.w.drew.heap.size, 0)])[k]? = some (some (b, q)) := e2
      rw [List.getElem?_append] at e2'
      split at e2'
      · exact ⟨k, q, e1, e2'⟩
      · have := List.mem_of_getElem? e2'
        simp at this
        omega

theorem newsE_spec {lv : LV} {new : List LV} {m size : Nat} {u : Value} (hr : Rel C B h) (he : newsE h size lv = some (new, m)) (hy : Conc C lv u) :
    ∃ (ad : Option Addr) (c : Nat) (news : List Value), u = .slice ad m c ∧ (ad = none → m = 0) ∧ new.length = m * size ∧ news.length = m * size ∧ (∀ x, ad = some x → ∀ (j : Nat) v, news[j]? = some v → C.w.cell? (x.add j) = some v) ∧ (∀ v ∈ news, v.oneCell' = true) ∧
      ∀ (i : Nat) c v, new[i]? = some c → news[i]? = some v → Conc C c v := by
  unfold newsE at he
  split at he
  · rename_i nw m' full
    split at he
    · rename_i hc
      simp only [Option.some.injEq, Prod.mk.injEq] at he
      obtain ⟨rfl, rfl⟩ := he
      obtain ⟨ad, c, news, hu, _, _, n1, n2, n3, n4⟩ := im_news hy hc.1 hc.2
      exact ⟨some ad, c, news, hu, fun hh => by simp at hh, hc.1, n1, fun x hx => by obtain rfl := Option.some.inj hx; exact n2, n3, n4⟩
    · simp at he
  · rename_i k ver off m' e cap
    split at he
    · rename_i cs hrow
      split at he
      · rename_i hc
        obtain ⟨rfl, hlen, hat⟩ := hc
        simp only [Option.some.injEq, Prod.mk.injEq] at he
        obtain ⟨rfl, rfl⟩ := he
        obtain ⟨b, q, us, tt, c, hxu, hlc, hroom, r1, r2, r3, r4, r5, r6, r7⟩ := Conc.sl_inv hr hy hrow
        have hget : ∀ (j : Nat) v, ((List.range (m' * e)).map fun j => us.getD (q + off + j) undef)[j]? = some v → j < m' * e ∧ us[q + off + j]? = some v := by
          intro j v hj
          simp only [List.getElem?_map, Option.map_eq_some_iff] at hj
          obtain ⟨j', hj', rfl⟩ := hj
          obtain ⟨hl, e'⟩ := List.getElem?_eq_some_iff.1 hj'
          simp at hl e'
          subst e'
          exact ⟨hl, by simp [show q + off + j < us.size by omega]⟩
        have hnew : ∀ (j : Nat) c, ((cs.drop off).take (m' * e))[j]? = some c → cs[off + j]? = some c := by
          intro j c hj
          rw [List.getElem?_take] at hj
          split at hj
          · rw [List.getElem?_drop] at hj; exact hj
          · simp at hj
        have hconc : ∀ (i : Nat) c v, ((cs.drop off).take (m' * e))[i]? = some c → ((List.range (m' * e)).map fun j => us.getD (q + off + j) undef)[i]? = some v → Conc C c v := by
          intro j c v h1 h2
          obtain ⟨_, h4⟩ := hget j v h2
          obtain ⟨u, y1, y2⟩ := r7 _ _ (hnew j c h1)
          rw [show q + (off + j) = q + off + j by omega, h4] at y1
          obtain rfl := Option.some.inj y1
          exact y2
        have hl1 : ((cs.drop off).take (m' * e)).length = m' * e := by simp; omega
        refine ⟨some ⟨b, q + off, none⟩, c, (List.range (m' * e)).map fun j => us.getD (q + off + j) undef, hxu, fun hh => by simp at hh, hl1, by simp, fun x hx j v hj => ?_, fun v hv => ?_, hconc⟩
        · obtain rfl := Option.some.inj hx
          obtain ⟨_, h4⟩ := hget j v hj
          rw [addr_add, cell_of_row C.w b _ us tt (0, 0) r5]
          exact h4
        · obtain ⟨j, hj, rfl⟩ := List.getElem_of_mem hv
          have hj2 : j < m' * e := by simpa using hj
          have hj3 : j < ((cs.drop off).take (m' * e)).length := by omega
          have hx1 : ((cs.drop off).take (m' * e))[j]? = some (((cs.drop off).take (m' * e))[j]'hj3) := List.getElem?_eq_getElem hj3
          exact atom_one (hconc j _ _ hx1 (List.getElem?_eq_getElem hj)) (List.all_eq_true.1 hat _ (List.getElem_mem _))
      · simp at he
    · simp at he
  · simp only [Option.some.injEq, Prod.mk.injEq] at he
    obtain ⟨rfl, rfl⟩ := he
    exact ⟨none, 0, [], hy.v_inv, fun _ => rfl, by simp, by simp, fun x hx => by simp at hx, fun v hv => by simp at hv, fun i c v h1 => by simp at h1⟩
  · simp at he

theorem run_append_zero (w : World) (t ty e : TypeId) (i : TypeInfo) (ht : P.underlying t = some (.slice e)) (hi : P.info? e = some i) (base : Option Addr) (sLen sCap : Nat) (ad : Option Addr) (c : Nat) (hle : sLen ≤ sCap) :
    (Builtin.append_ #[t, t] ty #[.slice base sLen sCap, .slice ad 0 c]).run P w = .ok (.slice base sLen sCap) w := by
  cases base <;> cases ad <;> simp [Builtin.append_, run_underlying ht, sizeOf, typeInfo, hi, Builtin.lenOf, hle, Builtin.firstCells, storeCells, loadCells, loadCellsFrom]

theorem putR_nil (cs : List LV) (off : Nat) : putR cs off [] = cs := by simp [putR]

theorem set_same {k : Nat} {r : Row} (hk : h[k]? = some r) : h.set k r = h := by
  apply List.ext_getElem?
  intro j
  rw [List.getElem?_set]
  by_cases hj : k = j
  · subst hj
    have hl : k < h.length := (List.getElem?_eq_some_iff.1 hk).1
    rw [if_pos rfl, if_pos hl, hk]
  · rw [if_neg hj]

theorem sound_app {ty e : TypeId} {i : TypeInfo} {z : Value} {x y : Operand} {mx my : MO} (ho : o.op = .call { callee := .builtin .append, args := #[x, y], argTypes := #[ty, ty] }) (hd : P.underlying ty = some (.slice e)) (hi : P.info? e = some i) (hz : i.zero = some z) (hzs : z.cells.size = i.size)
    (hx : Conc C (ev t mx) (a.eval x)) (hy : Conc C (ev t my) (a.eval y)) (hr : Rel C B h) (he : evOp (.app mx my i.size i.bytes) t h lim = some (l, h')) : Done P ((execOp a.eval o).run P C.w) (OpPost B lim C h false l h') := by
  have hrun : ∀ v' w', (∀ rt, (Builtin.append_ #[ty, ty] rt #[a.eval x, a.eval y]).run P C.w = .ok v' w') → (execOp a.eval o).run P C.w = .ok (.value v') w' := by
    intro v' w' hh
    simp [execOp, ho, resolve, invoke, builtin, hh]
  simp only [evOp] at he
  split at he
  · rename_i new m hnew
    obtain ⟨ad0, c, news, hu, had, hn, n1, n2', n3, n4⟩ := newsE_spec hr hnew hy
    generalize hl : ev t mx = lv at hx he
    have zero : m = 0 → ∀ (base : Option Addr) (sLen sCap : Nat), a.eval x = .slice base sLen sCap → sLen ≤ sCap → l = lv → h' = h → Done P ((execOp a.eval o).run P C.w) (OpPost B lim C h false l h') := by
      intro hm base sLen sCap hxx hle h1 h2
      subst hm h1 h2
      have hex := hrun _ _ fun rt => by
        rw [hxx, hu]
        exact run_append_zero C.w ty rt e i hd hi base sLen sCap ad0 c hle
      rw [hex]
      refine OpPost.same hr ?_
      rw [← hxx]; exact hx
    by_cases hm0 : m = 0
    · unfold appE at he
      split at he
      · simp only [hm0, if_true, Option.some.injEq, Prod.mk.injEq] at he
        exact zero hm0 none 0 0 hx.v_inv (Nat.le_refl _) he.1.symm he.2.symm
      · rename_i k ver off len esz cap
        split at he
        · simp at he
        · split at he
          · rename_i cs hrow
            obtain ⟨b, q, us, tt, cap', hxu, hlc, hroom, r1, r2, r3, r4, r5, r6, r7⟩ := Conc.sl_inv hr hx hrow
            have hnil : new = [] := List.eq_nil_of_length_eq_zero (by rw [hn, hm0, Nat.zero_mul])
            subst hnil
            split at he
            · rename_i hc
              obtain ⟨rfl, _, _⟩ := hc
              simp only [hm0, putR_nil, Nat.add_zero, set_same r3, Option.some.injEq, Prod.mk.injEq] at he
              exact zero hm0 _ _ _ hxu (Nat.le_trans hlc.1 hlc.2) he.1.symm he.2.symm
            · rw [if_neg (by omega)] at he
              simp at he
          · simp at he
      · simp only [hm0, if_true, Option.some.injEq, Prod.mk.injEq] at he
        obtain ⟨b, q, cap, usf, hxu, h1, h2, h3, h4⟩ := hx.im_inv
        exact zero hm0 _ _ _ hxu h1 he.1.symm he.2.symm
      · simp at he
    · have hm : 0 < m := Nat.pos_of_ne_zero hm0
      obtain ⟨ad, rfl⟩ : ∃ ad, ad0 = some ad := by
        cases ad0 with
        | none => exact absurd (had rfl) hm0
        | some ad => exact ⟨ad, rfl⟩
      have n2 := n2' ad rfl
      unfold appE at he
      split at he
      · -- nothing was there
        rw [if_neg hm0] at he
        split at he
        · rename_i hlim
          simp only [Option.some.injEq, Prod.mk.injEq] at he
          obtain ⟨rfl, rfl⟩ := he
          have hxv := hx.v_inv
          have hge := grownCap_ge C.w m 0 e
          refine push_done (w1 := C.w.drew) (cap := grownCap C.w m 0 e) (us := news.toArray ++ Builtin.zeroCells z.cells (grownCap C.w m 0 e - m)) (e := e) rfl hr ?_ ?_ hge ?_ (hrun _ _ fun rt => by
            rw [hxv, hu]
            exact run_append_nil C.w ty rt e i z hd hi hz ad m c news n1 n2 hm (by omega) (by omega))
          · simp [n1, hn]
          · intro j cc uu h5 h6
            have hj : j < new.length := (List.getElem?_eq_some_iff.1 h5).1
            have hj' : j < news.length := by omega
            rw [Array.getElem?_append_left (by simpa using hj')] at h6
            exact n4 j cc uu h5 (by simpa using h6)
          · rw [Array.size_append, size_zeroCells, hzs]
            simp only [List.size_toArray, n1]
            rw [← Nat.add_mul]
            exact Nat.mul_le_mul_right _ (by omega)
        · simp at he
      · -- a slice of a row of ours
        rename_i k ver off len esz cap
        split at he
        · simp at he
        · rename_i hlim0
          split at he
          · rename_i cs hrow
            obtain ⟨b, q, us, tt, capx, hxu, hlc, hroom, r1, r2, r3, r4, r5, r6, r7⟩ := Conc.sl_inv hr hx hrow
            obtain ⟨us2, tt2, hr5, hrs⟩ := hroom
            rw [r5] at hr5
            simp only [Option.some.injEq, Obj.cells.injEq, and_true] at hr5
            obtain ⟨rfl, rfl⟩ := hr5
            have hkl : k < h.length := (List.getElem?_eq_some_iff.1 r3).1
            have hρl : k < C.ρ.length := by rw [hr.len]; exact hkl
            have hvl : k < C.vs.length := by rw [hr.vs]; simpa using hkl
            have hblt : b < C.w.heap.size := (Array.getElem?_eq_some_iff.1 r5).1
            split at he
            · -- room that we know of
              rename_i hc
              obtain ⟨rfl, hcap, hcl⟩ := hc
              simp only [Option.some.injEq, Prod.mk.injEq] at he
              obtain ⟨rfl, rfl⟩ := he
              have hfit : len + m ≤ capx := by omega
              rw [Nat.add_mul] at hcl
              have hseg : us.toList.length = us.size := by simp
              have hex := hrun _ _ fun rt => by
                rw [hxu, hu]
                exact run_append_room' C.w ty rt e i hd hi b (q + off) len capx us tt r5 ad m c news n1 n2 n3 hfit (by rw [n1]; omega)
              rw [hex]
              have hw := Rel.write (ys := putR cs (off + len * i.size) new) (us' := (us.toList.take (q + off + len * i.size) ++ news ++ us.toList.drop (q + off + len * i.size + news.length)).toArray) hr r1 r3 r4 r5
                (by simp only [List.size_toArray, List.length_append, List.length_take, List.length_drop, hseg, n1]; omega)
                (by rw [putR_length _ _ _ (by omega)]; exact r6)
                (fun j cc hj => by
                  unfold putR at hj
                  rw [seg_get _ _ _ (by omega)] at hj
                  simp only [List.getElem?_toArray]
                  rw [seg_get _ _ _ (by rw [n1, hseg]; omega)]
                  by_cases hin : off + len * i.size ≤ j ∧ j < off + len * i.size + new.length
                  · rw [if_pos hin] at hj
                    rw [if_pos ⟨by omega, by omega⟩]
                    have hlt : j - (off + len * i.size) < news.length := by omega
                    refine ⟨news[j - (off + len * i.size)], ?_, n4 _ cc _ hj (List.getElem?_eq_getElem hlt)⟩
                    rw [show q + j - (q + off + len * i.size) = j - (off + len * i.size) by omega, List.getElem?_eq_getElem hlt]
                  · rw [if_neg hin] at hj
                    rw [if_neg (by omega)]
                    obtain ⟨u, y1, y2⟩ := r7 j cc hj
                    exact ⟨u, by simpa using y1, y2⟩)
              refine ⟨_, rfl, ?_, hw.1, hw.2, ⟨fun b' hb hno => ?_, fun k' b' o' e1 e2 _ => ⟨k', o', e1, e2⟩, by simp⟩, fun h => by simp at h⟩
              · refine Conc.sl r1 r2 ⟨hcap, hlc.2⟩ ⟨_, tt, setRow_heap C.w b us _ tt (0, 0) r5, ?_⟩
                simp only [List.size_toArray, List.length_append, List.length_take, List.length_drop, hseg, n1]; omega
              · exact setRow_other C.w b b' _ (fun hbb => hno k q (by omega) (by rw [hbb]; exact r1))
            · split at he
              · rename_i hc
                obtain ⟨_, rfl, rfl, hcs, hlim, hby⟩ := hc
                simp only [Option.some.injEq, Prod.mk.injEq] at he
                obtain ⟨rfl, rfl⟩ := he
                by_cases hfit : len + m ≤ capx
                · -- in place
                  have hmul : (len + m) * i.size ≤ capx * i.size := Nat.mul_le_mul_right _ hfit
                  rw [Nat.add_mul] at hmul
                  have hex := hrun _ _ fun rt => by
                    rw [hxu, hu]
                    exact run_append_room' C.w ty rt e i hd hi b (q + 0) len capx us tt r5 ad m c news n1 n2 n3 hfit (by rw [n1]; omega)
                  rw [hex]
                  have hseg : us.toList.length = us.size := by simp
                  obtain ⟨p1, p2, p3⟩ := Rel.bump (lim := lim) (w' := C.w.setRow b (us.toList.take (q + 0 + len * i.size) ++ news ++ us.toList.drop (q + 0 + len * i.size + news.length)).toArray) (g := b) (o' := q) (ys := cs ++ new) hr r1 r3 (.inl ⟨rfl, rfl⟩) (below_setRow r4) (fun j hj hjb => setRow_other C.w b j _ hjb) (setRow_heap C.w b us _ tt (0, 0) r5) r4 (by simp)
                    (by simp only [List.size_toArray, List.length_append, List.length_take, List.length_drop, n1, hn, hcs, hseg]; omega)
                    (fun j cc hj => by
                      simp only [List.getElem?_toArray]
                      rw [seg_get _ _ _ (by rw [n1, hseg]; omega)]
                      rw [List.getElem?_append] at hj
                      split at hj
                      · rename_i hjl
                        rw [if_neg (by omega)]
                        obtain ⟨u, y1, y2⟩ := r7 j cc hj
                        exact ⟨u, by simpa using y1, y2⟩
                      · rename_i hjl
                        have hjn : j - cs.length < new.length := (List.getElem?_eq_some_iff.1 hj).1
                        rw [if_pos ⟨by omega, by omega⟩, show q + j - (q + 0 + len * i.size) = j - cs.length by omega]
                        have hjn' : j - cs.length < news.length := by omega
                        exact ⟨news[j - cs.length], List.getElem?_eq_getElem hjn', n4 _ cc _ hj (List.getElem?_eq_getElem hjn')⟩) (by omega)
                  refine ⟨_, rfl, ?_, p1, p2, p3, fun h => by simp at h⟩
                  refine Conc.sl (o := q) ?_ ?_ ⟨Nat.le_refl _, hfit⟩ ⟨_, tt, setRow_heap C.w b us _ tt (0, 0) r5, ?_⟩
                  · show (C.ρ.set k (some (b, q)))[k]? = _
                    simp [hρl]
                  · show (C.vs.set k (ver + 1))[k]? = _
                    simp [hvl]
                  · simp only [List.size_toArray, List.length_append, List.length_take, List.length_drop, n1, hseg]; omega
                · -- moved
                  have holds : ((List.range cs.length).map fun j => us.getD (q + j) undef).length = len * i.size := by simpa using hcs
                  have hget : ∀ (j : Nat) v, ((List.range cs.length).map fun j => us.getD (q + j) undef)[j]? = some v → j < cs.length ∧ us[q + j]? = some v := by
                    intro j v hj
                    simp only [List.getElem?_map, Option.map_eq_some_iff] at hj
                    obtain ⟨j', hj', rfl⟩ := hj
                    obtain ⟨hl, e'⟩ := List.getElem?_eq_some_iff.1 hj'
                    simp at hl e'
                    subst e'
                    exact ⟨hl, by simp [show q + j < us.size by omega]⟩
                  have hge := grownCap_ge C.w (len + m) capx e
                  have hex := hrun _ _ fun rt => by
                    rw [hxu, hu]
                    exact run_append_grow C.w ty rt e i z hd hi hz ⟨b, q + 0, none⟩ len capx _ holds (fun j v hj => by
                      obtain ⟨_, hv⟩ := hget j v hj
                      rw [addr_add, Nat.add_zero, cell_of_row C.w b (q + j) us tt (0, 0) r5]
                      exact hv) ad m c news n1 n2 (by omega) (by omega) (growslice_fits (by omega) hby)
                  rw [hex]
                  have hbd : Below B C.w C.w.drew := (Below.refl _ _).drew
                  have hbel : Below B C.w (C.w.drew.alloc (.cells (((List.range cs.length).map fun j => us.getD (q + j) undef).toArray ++ news.toArray ++ Builtin.zeroCells z.cells (grownCap C.w (len + m) capx e - (len + m))) e (0, 0))) := hbd.alloc hr.size _
                  have hbel2 : Below C.w.heap.size C.w (C.w.drew.alloc (.cells (((List.range cs.length).map fun j => us.getD (q + j) undef).toArray ++ news.toArray ++ Builtin.zeroCells z.cells (grownCap C.w (len + m) capx e - (len + m))) e (0, 0))) := ((Below.refl _ _).drew).alloc (Nat.le_refl _) _
                  have hnew := heap_alloc_new C.w.drew (.cells (((List.range cs.length).map fun j => us.getD (q + j) undef).toArray ++ news.toArray ++ Builtin.zeroCells z.cells (grownCap C.w (len + m) capx e - (len + m))) e (0, 0))
                  have hsize : (((List.range cs.length).map fun j => us.getD (q + j) undef).toArray ++ news.toArray ++ Builtin.zeroCells z.cells (grownCap C.w (len + m) capx e - (len + m))).size = grownCap C.w (len + m) capx e * i.size := by
                    simp only [Array.size_append, size_zeroCells, hzs, List.size_toArray, holds, n1]
                    rw [← Nat.add_mul, ← Nat.add_mul]
                    congr 1
                    omega
                  have hmul : (len + m) * i.size ≤ grownCap C.w (len + m) capx e * i.size := Nat.mul_le_mul_right _ hge
                  rw [Nat.add_mul] at hmul
                  obtain ⟨p1, p2, p3⟩ := Rel.bump (lim := lim) (g := C.w.heap.size) (o' := 0) (ys := cs ++ new) hr r1 r3 (.inr (Nat.le_refl _)) hbel (fun j hj _ => hbel2.block j hj) hnew hr.size hbel2.size
                    (by rw [hsize]; simp only [List.length_append, hcs, hn]; omega)
                    (fun j cc hj => by
                      rw [Nat.zero_add]
                      rw [List.getElem?_append] at hj
                      split at hj
                      · rename_i hjl
                        obtain ⟨u, y1, y2⟩ := r7 j cc hj
                        refine ⟨u, ?_, y2⟩
                        have hjl' : j < ((List.range cs.length).map fun j => us.getD (q + j) undef).length := by simpa using hjl
                        rw [Array.getElem?_append_left (by simp; omega), Array.getElem?_append_left (by simpa using hjl)]
                        simp only [List.getElem?_toArray]
                        rw [List.getElem?_eq_getElem hjl']
                        simp only [List.getElem_map, List.getElem_range]
                        simp [y1]
                      · rename_i hjl
                        have hjn : j - cs.length < new.length := (List.getElem?_eq_some_iff.1 hj).1
                        have hjn' : j - cs.length < news.length := by omega
                        refine ⟨news[j - cs.length], ?_, n4 _ cc _ hj (List.getElem?_eq_getElem hjn')⟩
                        rw [Array.getElem?_append_left (by simp; omega), Array.getElem?_append_right (by simp; omega)]
                        simp [hjn']) (by omega)
                  refine ⟨_, rfl, ?_, p1, p2, p3, fun h => by simp at h⟩
                  have : Conc (Cx.mk (C.ρ.set k (some (C.w.heap.size, 0))) (C.vs.set k (ver + 1)) C.X (C.w.drew.alloc (.cells (((List.range cs.length).map fun j => us.getD (q + j) undef).toArray ++ news.toArray ++ Builtin.zeroCells z.cells (grownCap C.w (len + m) capx e - (len + m))) e (0, 0)))) (.sl k (ver + 1) 0 (len + m) i.size (len + m)) (.slice (some ⟨C.w.heap.size, 0 + 0, none⟩) (len + m) (grownCap C.w (len + m) capx e)) := by
                    refine Conc.sl (o := 0) ?_ ?_ ⟨Nat.le_refl _, hge⟩ ⟨_, e, hnew, by rw [hsize]; omega⟩
                    · show (C.ρ.set k _)[k]? = _
                      simp [hρl]
                    · show (C.vs.set k (ver + 1))[k]? = _
                      simp [hvl]
                  exact this
              · simp at he
          · simp at he
      · -- a slice that nobody writes, with no room
        rename_i cells len full
        rw [if_neg hm0] at he
        split at he
        · rename_i hc
          obtain ⟨rfl, hcs, hlim, hby⟩ := hc
          simp only [Option.some.injEq, Prod.mk.injEq] at he
          obtain ⟨rfl, rfl⟩ := he
          obtain ⟨b, q, cap, usf, hxu, h1, h2, h3, h4⟩ := hx.im_inv
          obtain rfl := h2 rfl
          have hge := grownCap_ge C.w (cap + m) cap e
          have holds : ((List.range cells.length).map usf).length = cap * i.size := by simpa using hcs
          have hget : ∀ (j : Nat) v, ((List.range cells.length).map usf)[j]? = some v → j < cells.length ∧ v = usf j := by
            intro j v hj
            simp only [List.getElem?_map, Option.map_eq_some_iff] at hj
            obtain ⟨j', hj', rfl⟩ := hj
            obtain ⟨hl, e'⟩ := List.getElem?_eq_some_iff.1 hj'
            simp at hl e'
            exact ⟨hl, by rw [e']⟩
          refine push_done (w1 := C.w.drew) (cap := grownCap C.w (cap + m) cap e) (us := ((List.range cells.length).map usf).toArray ++ news.toArray ++ Builtin.zeroCells z.cells (grownCap C.w (cap + m) cap e - (cap + m))) (e := e) rfl hr ?_ ?_ hge ?_ (hrun _ _ fun rt => by
            rw [hxu, hu]
            exact run_append_grow C.w ty rt e i z hd hi hz ⟨b, q, none⟩ cap cap _ holds (fun j v hj => by
              obtain ⟨hl, rfl⟩ := hget j v hj
              rw [addr_add]
              exact (h3 j cells[j] (by simp [hl])).2.2) ad m c news n1 n2 (by omega) (by omega) (growslice_fits (by omega) hby))
          · simp [n1, hn]
          · intro j cc uu h5 h6
            rw [List.getElem?_append] at h5
            split at h5
            · rename_i hjl
              rw [Array.getElem?_append_left (by simp; omega), Array.getElem?_append_left (by simpa using hjl)] at h6
              simp only [List.getElem?_toArray] at h6
              obtain ⟨_, rfl⟩ := hget j uu h6
              exact h4 j cc h5
            · rename_i hjl
              have hjn : j - cells.length < new.length := (List.getElem?_eq_some_iff.1 h5).1
              rw [Array.getElem?_append_left (by simp; omega), Array.getElem?_append_right (by simp; omega)] at h6
              exact n4 _ cc uu h5 (by simpa using h6)
          · simp only [Array.size_append, size_zeroCells, hzs, List.size_toArray, holds, n1]
            rw [← Nat.add_mul, ← Nat.add_mul]
            exact Nat.mul_le_mul_right _ (by omega)
        · simp at he
      · simp at he
  · simp at he
end
end Go.Proofs.Ytjgnjpbplnmdmaa
