/- The evaluator's rules, one for each form, as they are used for rewriting; a table of codes; a call as a value. -/
import Derived.Test.YtjgnjpbplnmdmaaEng12
namespace Go.Proofs.Ytjgnjpbplnmdmaa
open Go

def look : List (Nat × ME) → Nat → Option ME
  | [], _ => none
  | (a, m) :: l, g => match Nat.beq a g with
    | true => some m
    | false => look l g

def AllOk (P : Program) : List (Nat × ME) → Prop
  | [] => True
  | (a, m) :: l => Good P a m ∧ AllOk P l

theorem look_ok {P : Program} : ∀ {l : List (Nat × ME)}, AllOk P l → ∀ g m, look l g = some m → Good P g m
  | [], _, g, m, h => by simp [look] at h
  | (a, m') :: l, hl, g, m, h => by
    unfold look at h
    split at h
    · rename_i hb
      simp only [Option.some.injEq] at h
      subst h
      rw [← Nat.eq_of_beq_eq_true hb]; exact hl.1
    · exact look_ok hl.2 g m h

/-- What a call with values that are no row's hands back. -/
def evP (cal : Callee) (g : FuncId) (args : List LV) : Option LV :=
  match cal g args [] 0 with
  | some (r, h') => if closed (frz h' r) then some (frz h' r) else none
  | none => none

section
variable {cal : Callee} {q : Bool} {n lim : Nat} {t : List LV} {h : List Row} {s : St} {m : MI} {l : List MI} {d : Option Nat} {op : MOp}

theorem Ops_nil : evOps cal q lim [] s = some s := rfl
theorem Ops_cons : evOps cal q lim (m :: l) s = (evMI cal q lim m s).bind (evOps cal q lim l) := by
  simp only [evOps]; cases evMI cal q lim m s <;> rfl

def putS (d : Option Nat) (t : List LV) (r : LV × List Row) : St := (putD d t r.1, r.2)
theorem putS_mk {x : LV} : putS d t (x, h) = (putD d t x, h) := rfl

/-- A guarded operation: the test's outcome stands in the frame from then on. -/
def gate (x : LV) (want : Bool) (g : Nat) (d : Option Nat) (t : List LV) (h : List Row) (run : List LV → Option St) : Option St :=
  match x with
  | .v (.bool true) => if want then run (setT t g (.v (.bool true))) else some (putD d (setT t g (.v (.bool true))) .u, h)
  | .v (.bool false) => if want then some (putD d (setT t g (.v (.bool false))) .u, h) else run (setT t g (.v (.bool false)))
  | .v _ => some (putD d t .u, h)
  | _ => none

theorem setT_get : ∀ {t : List LV} {g : Nat} {x : LV}, getT t g = x → x ≠ .bad → setT t g x = t
  | [], g, x, h, hn => by simp [getT] at h; exact absurd h.symm hn
  | y :: l, 0, x, h, _ => by simp only [getT] at h; simp [setT, h]
  | y :: l, g + 1, x, h, hn => by simp only [getT] at h; simp only [setT, setT_get h hn]

section
variable {g : Nat} {run : List LV → Option St}
theorem gate_t : gate (.v (.bool true)) true g d t h run = run (setT t g (.v (.bool true))) := rfl
theorem gate_ff : gate (.v (.bool false)) false g d t h run = run (setT t g (.v (.bool false))) := rfl
theorem gate_tf : gate (.v (.bool true)) false g d t h run = some (putD d (setT t g (.v (.bool true))) .u, h) := rfl
theorem gate_ft : gate (.v (.bool false)) true g d t h run = some (putD d (setT t g (.v (.bool false))) .u, h) := rfl
theorem gate_u {want : Bool} : gate (.v undef) want g d t h run = some (putD d t .u, h) := rfl
theorem gate_bt {p : Bool} : gate (.v (.bool p)) true g d t h run = if p = true then run (setT t g (.v (.bool true))) else some (putD d (setT t g (.v (.bool false))) .u, h) := by
  cases p <;> rfl
theorem gate_bf {p : Bool} : gate (.v (.bool p)) false g d t h run = if p = true then some (putD d (setT t g (.v (.bool true))) .u, h) else run (setT t g (.v (.bool false))) := by
  cases p <;> rfl
end

def runMI (cal : Callee) (q : Bool) (lim : Nat) (op : MOp) (d : Option Nat) (h : List Row) (t : List LV) : Option St := (evAny cal q lim op t h).map (putS d t)
theorem runMI_mk : runMI cal q lim op d h t = (evAny cal q lim op t h).map (putS d t) := rfl

theorem MI_none : evMI cal q lim ⟨d, op, none⟩ (t, h) = (evAny cal q lim op t h).map (putS d t) := by
  simp only [evMI, wantB]; cases evAny cal q lim op t h <;> rfl
theorem MI_some {g : Nat} {w : Bool} : evMI cal q lim ⟨d, op, some (g, w)⟩ (t, h) = gate (getT t g) w g d t h (runMI cal q lim op d h) := by
  have g1 : ∀ p, getT t g = .v (.bool p) → setT t g (.v (.bool p)) = t := fun p hp => setT_get hp (by simp)
  simp only [evMI, wantB]
  revert g1
  generalize getT t g = x
  intro g1
  cases x <;> try rfl
  rename_i x
  cases x <;> try rfl
  rename_i p
  cases p <;> cases w <;> simp only [gate, g1 _ rfl, runMI] <;> first | rfl | (cases evAny cal q lim op t h <;> rfl)

def toNrm (s : St) : Ex × St := (.nrm, s)
theorem toNrm_mk : toNrm s = (.nrm, s) := rfl

theorem C_skip : evCode cal n lim .skip s = some (.nrm, s) := rfl
theorem C_ret : evCode cal n lim .ret s = some (.ret, s) := rfl
theorem C_exit {i : Nat} : evCode cal n lim (.exit i) s = some (.exit i, s) := rfl
theorem C_reg {hd tl : List MI} : evCode cal n lim (.reg hd tl) s = ((evOps cal true lim hd s).bind (evOps cal false lim tl)).map toNrm := by
  simp only [evCode]
  cases evOps cal true lim hd s with
  | none => rfl
  | some s' =>
    simp only [Option.bind_some]
    cases evOps cal false lim tl s' <;> rfl

def seqE (k : St → Option (Ex × St)) (r : Ex × St) : Option (Ex × St) :=
  match r with
  | (.nrm, s) => k s
  | (e, s) => some (e, s)
theorem seqE_nrm {k : St → Option (Ex × St)} : seqE k (.nrm, s) = k s := rfl
theorem seqE_ret {k : St → Option (Ex × St)} : seqE k (.ret, s) = some (.ret, s) := rfl
theorem seqE_exit {k : St → Option (Ex × St)} {i : Nat} : seqE k (.exit i, s) = some (.exit i, s) := rfl

theorem C_seq {a b : MC} : evCode cal n lim (.seq a b) s = (evCode cal n lim a s).bind (seqE (evCode cal n lim b)) := by
  simp only [evCode]
  cases evCode cal n lim a s with
  | none => rfl
  | some r => obtain ⟨e, s'⟩ := r; cases e <;> rfl

def condE (x : LV) (a b : Option (Ex × St)) : Option (Ex × St) :=
  match x with
  | .v (.bool q) => if q then a else b
  | _ => none
theorem condE_t {a b : Option (Ex × St)} : condE (.v (.bool true)) a b = a := rfl
theorem condE_f {a b : Option (Ex × St)} : condE (.v (.bool false)) a b = b := rfl
theorem condE_b {p : Bool} {a b : Option (Ex × St)} : condE (.v (.bool p)) a b = if p then a else b := rfl
theorem C_cond {c : MO} {a b : MC} : evCode cal n lim (.cond c a b) (t, h) = condE (ev t c) (evCode cal n lim a (t, h)) (evCode cal n lim b (t, h)) := rfl

def blockE (id : Nat) (r : Ex × St) : Ex × St :=
  match r with
  | (.exit i, s) => if i = id then (.nrm, s) else (.exit i, s)
  | r => r
theorem blockE_nrm {id : Nat} : blockE id (.nrm, s) = (.nrm, s) := rfl
theorem blockE_ret {id : Nat} : blockE id (.ret, s) = (.ret, s) := rfl
theorem blockE_exit {id i : Nat} : blockE id (.exit i, s) = if i = id then (.nrm, s) else (.exit i, s) := rfl
theorem C_block {id : Nat} {a : MC} : evCode cal n lim (.block id a) s = (evCode cal n lim a s).map (blockE id) := by
  simp only [evCode]
  cases evCode cal n lim a s with
  | none => rfl
  | some r =>
    obtain ⟨e, s'⟩ := r
    cases e with
    | nrm => rfl
    | ret => rfl
    | exit i => simp only [Option.map_some, blockE]; split <;> rfl
/-- One behind the other, as evHS goes. -/
def hsK (cal : Callee) (lim : Nat) (ps : Pois) (hp : List Row) (l : List MI) (h : List Row) (s : St) : Option St := evHS cal lim ps hp l (s.1, h)
theorem hsK_mk {ps : Pois} {hp h' : List Row} {l : List MI} : hsK cal lim ps hp l h (t, h') = evHS cal lim ps hp l (t, h) := rfl
theorem HS_nil {ps : Pois} {hp : List Row} : evHS cal lim ps hp [] s = some s := rfl
theorem HS_cons {ps : Pois} {hp : List Row} {m : MI} {l : List MI} : evHS cal lim ps hp (m :: l) (t, h) = if isSt m = true then (if stIn ps t m = true then (evMI cal false lim m (t, h)).bind (evHS cal lim ps hp l) else none) else (evMI cal true lim m (t, hp)).bind (hsK cal lim ps hp l h) := by
  simp only [evHS]
  split
  · split
    · cases evMI cal false lim m (t, h) <;> rfl
    · rfl
  · cases evMI cal true lim m (t, hp) <;> rfl
theorem rows_p {r a b o n : Nat} {l : List (LV × Nat × Nat)} : rowsP ((.p r a b, o, n) :: l) = (r, b + o, n) :: rowsP l := rfl
theorem lookP_nil {t : List LV} : lookP t [] = [] := rfl
theorem lookP_cons {t : List LV} {d o n : Nat} {bs : List (Nat × Nat × Nat)} : lookP t ((d, o, n) :: bs) = (getT t d, o, n) :: lookP t bs := rfl
theorem rows_nil : rowsP [] = [] := rfl
theorem C_regS {bs : Pois} {hd tl : List MI} : evCode cal n lim (.regS bs hd tl) (t, h) = ((evHS cal lim (rowsP (lookP t bs)) (poisA (rowsP (lookP t bs)) 0 h) hd (t, h)).bind (evOps cal false lim tl)).map toNrm := by
  simp only [evCode]
  cases evHS cal lim (rowsP (lookP t bs)) (poisA (rowsP (lookP t bs)) 0 h) hd (t, h) with
  | none => rfl
  | some s' =>
    simp only [Option.bind_some]
    cases evOps cal false lim tl s' <;> rfl
def altE (x y : Option (Ex × St)) : Option (Ex × St) := match x with | some r => some r | none => y
theorem altE_some {r : Ex × St} {y : Option (Ex × St)} : altE (some r) y = some r := rfl
theorem altE_none {y : Option (Ex × St)} : altE none y = y := rfl
theorem altE_ite {p : Prop} [Decidable p] {x x' y : Option (Ex × St)} : altE (if p then x else x') y = if p then altE x y else altE x' y := by split <;> rfl
theorem C_alt {a b : MC} : evCode cal n lim (.alt a b) s = altE (evCode cal n lim a s) (evCode cal n lim b s) := by
  simp only [evCode]
  cases evCode cal n lim a s <;> rfl
/-! ### heads that make rows and write -/
def addR (i : Nat) (ks : List Nat) (r : St × LogR × LogM) : St × LogR × LogM := (r.1, (i, ks) :: r.2.1, r.2.2)
theorem addR_mk {i : Nat} {ks : List Nat} {rs : LogR} {ms : LogM} : addR i ks (s, rs, ms) = (s, (i, ks) :: rs, ms) := rfl
def addM (w : List Nat) (x : Option (List Nat)) (h h' : List Row) (r : St × LogR × LogM) : St × LogR × LogM := (r.1, r.2.1, (w, x, h, h') :: r.2.2)
theorem addM_mk {w : List Nat} {x : Option (List Nat)} {h h' : List Row} {rs : LogR} {ms : LogM} : addM w x h h' (s, rs, ms) = (s, rs, (w, x, h, h') :: ms) := rfl
def hmQ (cal : Callee) (lim : Nat) (h0 : List Row) (i : Nat) (l : List (Cls × MI)) (s : St) (ks : List Nat) : Option (St × LogR × LogM) := (evHM cal lim h0 (i + 1) l s).map (addR i ks)
theorem hmQ_mk {h0 : List Row} {i : Nat} {l : List (Cls × MI)} {ks : List Nat} : hmQ cal lim h0 i l s ks = (evHM cal lim h0 (i + 1) l s).map (addR i ks) := rfl
def hmP (cal : Callee) (lim : Nat) (h0 : List Row) (i : Nat) (l : List (Cls × MI)) (h : List Row) (rd : Option (List Nat)) (s : St) : Option (St × LogR × LogM) := rd.bind (hmQ cal lim h0 i l (s.1, h))
theorem hmP_mk {h0 h' : List Row} {i : Nat} {l : List (Cls × MI)} {rd : Option (List Nat)} : hmP cal lim h0 i l h rd (t, h') = rd.bind (hmQ cal lim h0 i l (t, h)) := rfl
def hmR (cal : Callee) (lim : Nat) (h0 : List Row) (i : Nat) (l : List (Cls × MI)) (w : List Nat) (x : Option (List Nat)) (h : List Row) (s : St) : Option (St × LogR × LogM) := (evHM cal lim h0 (i + 1) l s).map (addM w x h s.2)
theorem hmR_mk {h0 : List Row} {i : Nat} {l : List (Cls × MI)} {w : List Nat} {x : Option (List Nat)} {h h' : List Row} : hmR cal lim h0 i l w x h (t, h') = (evHM cal lim h0 (i + 1) l (t, h')).map (addM w x h h') := rfl
def hmM (cal : Callee) (lim : Nat) (h0 : List Row) (i : Nat) (l : List (Cls × MI)) (r : Nat) (s : St) : Option (St × LogR × LogM) := (evHM cal lim h0 (i + 1) l s).map (addR i [h0.length + r])
theorem hmM_mk {h0 : List Row} {i r : Nat} {l : List (Cls × MI)} : hmM cal lim h0 i l r s = (evHM cal lim h0 (i + 1) l s).map (addR i [h0.length + r]) := rfl
theorem HM_nil {h0 : List Row} {i : Nat} : evHM cal lim h0 i [] s = some (s, [], []) := rfl
theorem HM_p {h0 : List Row} {i : Nat} {m : MI} {l : List (Cls × MI)} : evHM cal lim h0 i ((.p, m) :: l) (t, h) = (evMI cal true lim m (t, h0)).bind (hmP cal lim h0 i l h (rdsMI m.op t)) := by
  simp only [evHM]
  cases evMI cal true lim m (t, h0) with
  | none => rfl
  | some s' =>
    simp only [Option.bind_some, hmP]
    cases rdsMI m.op t with
    | none => rfl
    | some ks =>
      simp only [Option.bind_some, hmQ]
      cases evHM cal lim h0 (i + 1) l (s'.1, h) with
      | none => rfl
      | some r => obtain ⟨z, rs, ms⟩ := r; rfl
theorem HM_m {h0 : List Row} {i r : Nat} {m : MI} {l : List (Cls × MI)} : evHM cal lim h0 i ((.m r, m) :: l) (t, h) = (evMk h0.length r m (t, h)).bind (hmM cal lim h0 i l r) := by
  simp only [evHM]
  cases evMk h0.length r m (t, h) with
  | none => rfl
  | some s' =>
    simp only [Option.bind_some, hmM]
    cases evHM cal lim h0 (i + 1) l s' with
    | none => rfl
    | some r => obtain ⟨z, rs, ms⟩ := r; rfl
def hmS (cal : Callee) (lim : Nat) (h0 : List Row) (i : Nat) (l : List (Cls × MI)) (h : List Row) (s : St) : Option (St × LogR × LogM) := evHM cal lim h0 (i + 1) l (s.1, h)
theorem hmS_mk {h0 h' : List Row} {i : Nat} {l : List (Cls × MI)} : hmS cal lim h0 i l h (t, h') = evHM cal lim h0 (i + 1) l (t, h) := rfl
theorem HM_q {h0 : List Row} {i : Nat} {w : List Nat} {m : MI} {l : List (Cls × MI)} : evHM cal lim h0 i ((.q w, m) :: l) (t, h) = (evMI cal true lim m (t, h)).bind (hmS cal lim h0 i l h) := by
  simp only [evHM]
  cases evMI cal true lim m (t, h) <;> rfl
theorem HM_r {h0 : List Row} {i : Nat} {w : List Nat} {m : MI} {l : List (Cls × MI)} : evHM cal lim h0 i ((.r w, m) :: l) (t, h) = (evMI cal false lim m (t, h)).bind (hmR cal lim h0 i l w (mutsMI cal h m.op t) h) := by
  simp only [evHM]
  cases evMI cal false lim m (t, h) with
  | none => rfl
  | some s' =>
    simp only [Option.bind_some, hmR]
    cases evHM cal lim h0 (i + 1) l s' with
    | none => rfl
    | some r => obtain ⟨z, rs, ms⟩ := r; rfl
def mkK (n0 r d : Nat) (z : List LV) (esz bytes : Nat) (t : List LV) (h : List Row) : LV → LV → Option St
  | .v (.int _ n), .v (.int _ n') => if n = n' ∧ 0 ≤ n ∧ n ≤ 9223372036854775807 ∧ n.toNat * bytes ≤ 140737488355328 then some (setT t d (.sl (n0 + r) 0 0 n.toNat esz n.toNat), h.set (n0 + r) ⟨0, repC z n.toNat⟩) else none
  | _, _ => none
theorem mkK_int {n0 r d : Nat} {z : List LV} {esz bytes : Nat} {k k' : IntKind} {n n' : Int} : mkK n0 r d z esz bytes t h (.v (.int k n)) (.v (.int k' n')) = if n = n' ∧ 0 ≤ n ∧ n ≤ 9223372036854775807 ∧ n.toNat * bytes ≤ 140737488355328 then some (setT t d (.sl (n0 + r) 0 0 n.toNat esz n.toNat), h.set (n0 + r) ⟨0, repC z n.toNat⟩) else none := rfl
theorem Mk_mk {n0 r d : Nat} {a b : MO} {z : List LV} {esz bytes : Nat} : evMk n0 r ⟨some d, .mks a b z esz bytes, none⟩ (t, h) = mkK n0 r d z esz bytes t h (ev t a) (ev t b) := rfl
def hmK (cal : Callee) (lim : Nat) (tl : List MI) (r : St × LogR × LogM) : Option (Ex × St) := if okRM r.2.1 r.2.2 = true then (evOps cal false lim tl r.1).map toNrm else none
theorem hmK_mk {tl : List MI} {rs : LogR} {ms : LogM} : hmK cal lim tl (s, rs, ms) = if okRM rs ms = true then (evOps cal false lim tl s).map toNrm else none := rfl
theorem C_regM {hd : List (Cls × MI)} {tl : List MI} : evCode cal n lim (.regM hd tl) (t, h) = (evHM cal lim h 0 hd (t, h ++ List.replicate (cntM hd) ⟨0, []⟩)).bind (hmK cal lim tl) := by
  simp only [evCode]
  cases evHM cal lim h 0 hd (t, h ++ List.replicate (cntM hd) ⟨0, []⟩) with
  | none => rfl
  | some r =>
    obtain ⟨s', rs, ms⟩ := r
    simp only [Option.bind_some, hmK]
    split
    · cases evOps cal false lim tl s' <;> rfl
    · rfl
theorem cntM_p {m : MI} {l : List (Cls × MI)} : cntM ((.p, m) :: l) = cntM l := rfl
theorem cntM_m {r : Nat} {m : MI} {l : List (Cls × MI)} : cntM ((.m r, m) :: l) = cntM l + 1 := rfl
theorem cntM_r {w : List Nat} {m : MI} {l : List (Cls × MI)} : cntM ((.r w, m) :: l) = cntM l := rfl
theorem cntM_q {w : List Nat} {m : MI} {l : List (Cls × MI)} : cntM ((.q w, m) :: l) = cntM l := rfl
theorem cntM_nil : cntM [] = 0 := rfl
def rdP : LV → Option (List Nat)
  | .p k _ _ => some [k]
  | _ => some []
theorem rdP_p {k ver off : Nat} : rdP (.p k ver off) = some [k] := rfl
theorem rdP_pi {cs : List LV} : rdP (.pi cs) = some [] := rfl
theorem rdP_v {v : Value} : rdP (.v v) = some [] := rfl
def rdS : LV → Option (List Nat)
  | .sl k _ _ _ _ _ => some [k]
  | _ => some []
theorem rdS_sl {k ver off len esz cap : Nat} : rdS (.sl k ver off len esz cap) = some [k] := rfl
theorem rdS_im {cs : List LV} {len : Nat} {f : Bool} : rdS (.im cs len f) = some [] := rfl
theorem rdS_v {v : Value} : rdS (.v v) = some [] := rfl
def rdC (as : List LV) : LV → Option (List Nat)
  | .f _ cap => if closedL (as ++ cap) then some [] else none
  | _ => none
theorem rdC_f {as cap : List LV} {g : FuncId} : rdC as (.f g cap) = if closedL (as ++ cap) then some [] else none := rfl
theorem rds_ld {a : MO} {m : Option Nat} : rdsMI (.ld a m) t = rdP (ev t a) := rfl
theorem rds_slc {a : MO} {lo hi mx : Option MO} {e : Nat} : rdsMI (.slc a lo hi mx e) t = rdS (ev t a) := rfl
theorem rds_call {f : MO} {args : List MO} : rdsMI (.call f args) t = rdC (args.map (ev t)) (ev t f) := rfl
theorem rds_mv {a : MO} : rdsMI (.mv a) t = some [] := rfl
theorem rds_pick {a b c : MO} : rdsMI (.pick a b c) t = some [] := rfl
theorem rds_fa {a : MO} {o : Nat} : rdsMI (.fa a o) t = some [] := rfl
theorem rds_fld {a : MO} {o : Nat} {m : Option Nat} : rdsMI (.fld a o m) t = some [] := rfl
theorem rds_ixa {a i : MO} {x y : Nat} : rdsMI (.ixa a i x y) t = some [] := rfl
theorem rds_ixs {a i : MO} {x : Nat} : rdsMI (.ixs a i x) t = some [] := rfl
theorem rds_ix {a i : MO} {x y : Nat} {m : Option Nat} : rdsMI (.ix a i x y m) t = some [] := rfl
theorem rds_bin {o : BinOp} {a b : MO} : rdsMI (.bin o a b) t = some [] := rfl
theorem rds_eqv {x y : Bool} {ks : List Kd} {a b : MO} : rdsMI (.eqv x y ks a b) t = some [] := rfl
theorem rds_eqn {x : Bool} {k : Nat} {a : MO} : rdsMI (.eqn x k a) t = some [] := rfl
theorem rds_un {o : UnOp} {a : MO} : rdsMI (.un o a) t = some [] := rfl
theorem rds_conv {k : IntKind} {a : MO} : rdsMI (.conv k a) t = some [] := rfl
theorem rds_ext {a : MO} {i : Nat} : rdsMI (.ext a i) t = some [] := rfl
theorem rds_bld {z : List LV} {ps : List (Nat × Nat × MO)} : rdsMI (.bld z ps) t = some [] := rfl
theorem rds_bsl {z : List LV} {k : Nat} {ps : List (Nat × Nat × MO)} : rdsMI (.bsl z k ps) t = some [] := rfl
theorem rds_mkf {f : FuncId} {ps : List MO} : rdsMI (.mkf f ps) t = some [] := rfl
theorem rds_ifc {ty : TypeId} {a : MO} : rdsMI (.ifc ty a) t = some [] := rfl
theorem rds_nilc {a : MO} : rdsMI (.nilc a) t = some [] := rfl
theorem rds_len {a : MO} : rdsMI (.len a) t = some [] := rfl
theorem rds_lenS {a : MO} : rdsMI (.lenS a) t = some [] := rfl
theorem rds_mm {x : Bool} {as : List MO} : rdsMI (.mm x as) t = some [] := rfl
theorem rds_sap {a : MO} {k : Nat} : rdsMI (.sap a k) t = some [] := rfl
theorem rds_tas {a : MO} {ty : TypeId} {ok : Bool} {z : LV} : rdsMI (.tas a ty ok z) t = some [] := rfl
theorem muts_st {a b : MO} {k : Nat} : mutsMI cal h (.st a b k) t = rdP (ev t a) := rfl
theorem muts_app {a b : MO} {e y : Nat} : mutsMI cal h (.app a b e y) t = rdS (ev t a) := rfl
theorem muts_clr {a : MO} {z : List LV} {e : Nat} : mutsMI cal h (.clr a z e) t = rdS (ev t a) := rfl
theorem rds_sst {a lo hi : MO} : rdsMI (.sst a lo hi) t = some [] := rfl
theorem muts_bst {a : MO} : mutsMI cal h (.bst a) t = some [] := rfl
theorem muts_box {a : MO} : mutsMI cal h (.box a) t = some [] := rfl
theorem muts_mks {a b : MO} {z : List LV} {e y : Nat} : mutsMI cal h (.mks a b z e y) t = some [] := rfl
def muI : Option (LV × List Row) → Option (List Nat)
  | some _ => some []
  | none => none
theorem muI_some {r : LV × List Row} : muI (some r) = some [] := rfl
theorem muI_none : muI none = none := rfl
theorem muI_ite {p : Prop} [Decidable p] {x y : Option (LV × List Row)} : muI (if p then x else y) = if p then muI x else muI y := by split <;> rfl
def muC (cal : Callee) (h : List Row) (as : List LV) : LV → Option (List Nat)
  | .f g cap => muI (isoE cal h g (as ++ cap))
  | _ => none
theorem muC_f {g : FuncId} {as cap : List LV} : muC cal h as (.f g cap) = muI (isoE cal h g (as ++ cap)) := rfl
theorem muts_call {f : MO} {args : List MO} : mutsMI cal h (.call f args) t = muC cal h (args.map (ev t)) (ev t f) := by
  simp only [mutsMI]
  generalize ev t f = x
  cases x <;> first
    | rfl
    | (simp only [muC]; split <;> simp_all [muI])
def muT (cal : Callee) (h : List Row) (x : LV) (as : List LV) : Option FuncId → Option (List Nat)
  | some g => muI (isoE cal h g (x :: as))
  | none => none
theorem muT_some {g : FuncId} {x : LV} {as : List LV} : muT cal h x as (some g) = muI (isoE cal h g (x :: as)) := rfl
def muV (cal : Callee) (h : List Row) (tab : List (TypeId × FuncId)) (as : List LV) : LV → Option (List Nat)
  | .ifc d x => muT cal h x as (lookT tab d)
  | _ => none
theorem muV_ifc {tab : List (TypeId × FuncId)} {as : List LV} {d : TypeId} {x : LV} : muV cal h tab as (.ifc d x) = muT cal h x as (lookT tab d) := rfl
theorem muts_inv {tab : List (TypeId × FuncId)} {a : MO} {args : List MO} : mutsMI cal h (.inv tab a args) t = muV cal h tab (args.map (ev t)) (ev t a) := by
  simp only [mutsMI]
  generalize ev t a = x
  cases x <;> first
    | rfl
    | (rename_i d y
       simp only [muV]
       cases lookT tab d with
       | none => rfl
       | some g => simp only [muT]; split <;> simp_all [muI])
/-- A call by itself. -/
def isoC (h : List Row) : Option (LV × List Row) → Option (LV × List Row)
  | some (r, h1) => if closed (frz h1 r) then some (frz h1 r, []) else some (shL h.length r, shR h.length h1)
  | none => none
theorem isoC_some {r : LV} {h1 : List Row} : isoC h (some (r, h1)) = if closed (frz h1 r) then some (frz h1 r, []) else some (shL h.length r, shR h.length h1) := rfl
theorem isoC_none : isoC h none = none := rfl
def isoF (h : List Row) : Option (LV × List Row) → Option (LV × List Row)
  | some (r, h1) => if flat r then some (r, []) else if noim r && noimR h1 then some (shL h.length r, shR h.length h1) else none
  | none => none
theorem isoF_some {r : LV} {h1 : List Row} : isoF h (some (r, h1)) = if flat r then some (r, []) else if noim r && noimR h1 then some (shL h.length r, shR h.length h1) else none := rfl
theorem isoF_none : isoF h none = none := rfl
theorem iso_c {g : FuncId} {as : List LV} (hc : closedL as = true) : isoE cal h g as = isoC h (cal g as [] 0) := by
  simp only [isoE, hc, if_true]
  cases cal g as [] 0 <;> rfl
theorem iso_f {g : FuncId} {as : List LV} (hc : closedL as = false) (hf : closedL (frzL h as) = true) : isoE cal h g as = isoF h (cal g (frzL h as) [] 0) := by
  simp only [isoE, hc, hf, Bool.false_eq_true, if_false, if_true]
  cases cal g (frzL h as) [] 0 <;> rfl
theorem iso_n {g : FuncId} {as : List LV} (hc : closedL as = false) (hf : closedL (frzL h as) = false) : isoE cal h g as = none := by
  simp only [isoE, hc, hf, Bool.false_eq_true, if_false]
theorem muts_ld {a : MO} {m : Option Nat} : mutsMI cal h (.ld a m) t = some [] := rfl
theorem muts_slc {a : MO} {lo hi mx : Option MO} {e : Nat} : mutsMI cal h (.slc a lo hi mx e) t = some [] := rfl
theorem okRM_nil {rs : LogR} : okRM rs [] = true := rfl
theorem okRM_cons {rs : LogR} {w : List Nat} {x : Option (List Nat)} {h h' : List Row} {l : LogM} : okRM rs ((w, x, h, h') :: l) = (okRM1 w x h h' rs && okRM rs l) := rfl
theorem okRM1_nil {w : List Nat} {x : Option (List Nat)} {h h' : List Row} : okRM1 w x h h' [] = true := rfl
theorem okRM1_e {w : List Nat} {x : Option (List Nat)} {h h' : List Row} {i : Nat} {rs : LogR} : okRM1 w x h h' ((i, []) :: rs) = okRM1 w x h h' rs := by cases x <;> simp [okRM1, disj]
theorem okRM1_s {w : List Nat} {x : List Nat} {h h' : List Row} {i k : Nat} {ks : List Nat} {rs : LogR} : okRM1 w (some x) h h' ((i, k :: ks) :: rs) = ((memN w i || disj (k :: ks) x) && okRM1 w (some x) h h' rs) := rfl
theorem okRM1_n {w : List Nat} {h h' : List Row} {i k : Nat} {ks : List Nat} {rs : LogR} : okRM1 w none h h' ((i, k :: ks) :: rs) = ((memN w i || (turnK h h' k && ks.all (turnK h h'))) && okRM1 w none h h' rs) := by simp [okRM1]
theorem turnK_of {h h' : List Row} {k v : Nat} {cs : List LV} (h1 : rowOf h k v = some cs) (h2 : rowOf h' k v = some cs) (he : eqLs cs cs = true) : turnK h h' k = true := by
  unfold rowOf at h1 h2
  unfold turnK
  cases e1 : h[k]? with
  | none => rw [e1] at h1; cases h1
  | some r =>
    cases e2 : h'[k]? with
    | none => rw [e2] at h2; cases h2
    | some r' =>
      rw [e1] at h1; rw [e2] at h2
      simp only at h1 h2 ⊢
      split at h1
      · split at h2
        · rename_i a b
          simp only [Option.some.injEq] at h1 h2
          rw [a, b, h1, h2, he]; simp
        · cases h2
      · cases h1
theorem C_loopK {kp fg : List Nat} {a : MC} : evCode cal n lim (.loopK kp fg a) (t, h) = iter (evCode cal n lim a) (cleanK kp fg h.length lim) n (t, h) := rfl
theorem C_stuck : evCode cal n lim .stuck s = none := rfl
theorem C_loopN {fg : List Nat} {a : MC} : evCode cal n lim (.loopN fg a) (t, h) = iter (evCode cal n lim a) (cleanN fg) n (t, h) := rfl
theorem cleanN_mk {fg : List Nat} : cleanN fg (t, h) = (forget fg t, h) := rfl
theorem A_stk : evAny cal q lim .stk t h = none := rfl
theorem C_loop {fg : List Nat} {a : MC} : evCode cal n lim (.loop fg a) (t, h) = iter (evCode cal n lim a) (clean fg h.length lim) n (t, h) := rfl

theorem A_mv {a : MO} : evAny cal q lim (.mv a) t h = some (ev t a, h) := rfl
def pickE (c a b : LV) : Option LV :=
  match c with
  | .v (.bool p) => some (if p then a else b)
  | _ => none
theorem pickE_t {a b : LV} : pickE (.v (.bool true)) a b = some a := rfl
theorem pickE_f {a b : LV} : pickE (.v (.bool false)) a b = some b := rfl
theorem pickE_bb {p x y : Bool} : pickE (.v (.bool p)) (.v (.bool x)) (.v (.bool y)) = some (.v (.bool (if p then x else y))) := by cases p <;> rfl
def withH (h : List Row) (x : LV) : LV × List Row := (x, h)
theorem withH_mk {x : LV} : withH h x = (x, h) := rfl
theorem A_pick {c a b : MO} : evAny cal q lim (.pick c a b) t h = (pickE (ev t c) (ev t a) (ev t b)).map (withH h) := by
  simp only [evAny, evOp]
  generalize ev t c = x
  cases x <;> try rfl
  rename_i x; cases x <;> rfl
theorem A_box {a : MO} : evAny cal q lim (.box a) t h = if (ev t a).cells.all atomB then some (.p h.length 0 0, h ++ [⟨0, (ev t a).cells⟩]) else none := rfl
def ldE (h : List Row) (n : Option Nat) : LV → Option LV
  | .p k ver off => (rowOf h k ver).bind fun cs => rdAt cs off n
  | .pi cs => rdAt cs 0 n
  | _ => none
theorem ldE_p {n : Option Nat} {k ver off : Nat} : ldE h n (.p k ver off) = (rowOf h k ver).bind fun cs => rdAt cs off n := rfl
theorem ldE_pi {n : Option Nat} {cs : List LV} : ldE h n (.pi cs) = rdAt cs 0 n := rfl
theorem A_ld {a : MO} {n : Option Nat} : evAny cal q lim (.ld a n) t h = (ldE h n (ev t a)).map (withH h) := by
  simp only [evAny, evOp]
  generalize ev t a = x
  cases x <;> first | rfl | (rename_i x; cases x <;> rfl)
def stE (h : List Row) (lim n : Nat) (a : LV) (xs : List LV) : Option (LV × List Row) :=
  match a with
  | .p k ver off => if k < lim then none else match rowOf h k ver with
    | some cs => if xs.length = n ∧ off + n ≤ cs.length ∧ xs.all atomB = true then some (.u, h.set k ⟨ver, putR cs off xs⟩) else none
    | none => none
  | _ => none
theorem stE_p {k ver off : Nat} {m : Nat} {xs : List LV} : stE h lim m (.p k ver off) xs = if k < lim then none else (rowOf h k ver).bind fun cs => if xs.length = m ∧ off + m ≤ cs.length ∧ xs.all atomB = true then some (.u, h.set k ⟨ver, putR cs off xs⟩) else none := by
  simp only [stE]
  split
  · rfl
  · cases rowOf h k ver <;> rfl
theorem A_st {a b : MO} {m : Nat} : evAny cal q lim (.st a b m) t h = stE h lim m (ev t a) (ev t b).cells := rfl
def faE (o : Nat) : LV → Option LV
  | .p k ver off => some (.p k ver (off + o))
  | .pi cs => some (.pi (cs.drop o))
  | _ => none
theorem faE_p {o k ver off : Nat} : faE o (.p k ver off) = some (.p k ver (off + o)) := rfl
theorem faE_pi {o : Nat} {cs : List LV} : faE o (.pi cs) = some (.pi (cs.drop o)) := rfl
theorem A_fa {a : MO} {o : Nat} : evAny cal q lim (.fa a o) t h = (faE o (ev t a)).map (withH h) := by
  simp only [evAny, evOp]
  generalize ev t a = x
  cases x <;> first | rfl | (rename_i x; cases x <;> rfl)
def fldE (o : Nat) (n : Option Nat) : LV → Option LV
  | .agg cs => rdAt cs o n
  | _ => none
theorem fldE_agg {o : Nat} {n : Option Nat} {cs : List LV} : fldE o n (.agg cs) = rdAt cs o n := rfl
theorem A_fld {a : MO} {o : Nat} {m : Option Nat} : evAny cal q lim (.fld a o m) t h = (fldE o m (ev t a)).map (withH h) := by
  simp only [evAny, evOp]
  generalize ev t a = x
  cases x <;> first | rfl | (rename_i x; cases x <;> rfl)
def ixaE (len esz : Nat) (a i : LV) : Option LV :=
  match a, i with
  | .p k ver off, .v (.int _ n) => if 0 ≤ n ∧ n < (len : Int) then some (.p k ver (off + n.toNat * esz)) else none
  | .pi cs, .v (.int _ n) => if 0 ≤ n ∧ n < (len : Int) then some (.pi (cs.drop (n.toNat * esz))) else none
  | _, _ => none
theorem ixaE_p {len esz k ver off : Nat} {kd : IntKind} {x : Int} : ixaE len esz (.p k ver off) (.v (.int kd x)) = if 0 ≤ x ∧ x < (len : Int) then some (.p k ver (off + x.toNat * esz)) else none := rfl
theorem ixaE_pi {len esz : Nat} {cs : List LV} {kd : IntKind} {x : Int} : ixaE len esz (.pi cs) (.v (.int kd x)) = if 0 ≤ x ∧ x < (len : Int) then some (.pi (cs.drop (x.toNat * esz))) else none := rfl
theorem A_ixa {a i : MO} {len esz : Nat} : evAny cal q lim (.ixa a i len esz) t h = (ixaE len esz (ev t a) (ev t i)).map (withH h) := by
  simp only [evAny, evOp]
  generalize ev t a = x
  generalize ev t i = y
  cases x <;> try rfl
  all_goals (cases y <;> try rfl)
  all_goals (rename_i y; cases y <;> try rfl)
  all_goals (simp only [ixaE]; split <;> rfl)
def ixsE (esz : Nat) (a i : LV) : Option LV :=
  match a, i with
  | .sl k ver off len e _, .v (.int _ n) => if e = esz ∧ 0 ≤ n ∧ n < (len : Int) then some (.p k ver (off + n.toNat * esz)) else none
  | .im cs len _, .v (.int _ n) => if 0 ≤ n ∧ n < (len : Int) then some (.pi (cs.drop (n.toNat * esz))) else none
  | _, _ => none
theorem ixsE_sl {len e esz k ver off cap : Nat} {kd : IntKind} {x : Int} : ixsE esz (.sl k ver off len e cap) (.v (.int kd x)) = if e = esz ∧ 0 ≤ x ∧ x < (len : Int) then some (.p k ver (off + x.toNat * esz)) else none := rfl
theorem ixsE_im {len esz : Nat} {cs : List LV} {fl : Bool} {kd : IntKind} {x : Int} : ixsE esz (.im cs len fl) (.v (.int kd x)) = if 0 ≤ x ∧ x < (len : Int) then some (.pi (cs.drop (x.toNat * esz))) else none := rfl
theorem A_ixs {a i : MO} {esz : Nat} : evAny cal q lim (.ixs a i esz) t h = (ixsE esz (ev t a) (ev t i)).map (withH h) := by
  simp only [evAny, evOp]
  generalize ev t a = x
  generalize ev t i = y
  cases x <;> try rfl
  all_goals (cases y <;> try rfl)
  all_goals (rename_i y; cases y <;> try rfl)
  all_goals (simp only [ixsE]; split <;> rfl)
def ixE (len esz : Nat) (n : Option Nat) (a i : LV) : Option LV :=
  match a, i with
  | .agg cs, .v (.int _ x) => if 0 ≤ x ∧ x < (len : Int) then rdAt cs (x.toNat * esz) n else none
  | _, _ => none
theorem ixE_agg {len esz : Nat} {m : Option Nat} {cs : List LV} {kd : IntKind} {x : Int} : ixE len esz m (.agg cs) (.v (.int kd x)) = if 0 ≤ x ∧ x < (len : Int) then rdAt cs (x.toNat * esz) m else none := rfl
theorem A_ix {a i : MO} {len esz : Nat} {m : Option Nat} : evAny cal q lim (.ix a i len esz m) t h = (ixE len esz m (ev t a) (ev t i)).map (withH h) := by
  simp only [evAny, evOp]
  generalize ev t a = x
  generalize ev t i = y
  cases x <;> try rfl
  all_goals (cases y <;> try rfl)
  all_goals (rename_i y; cases y <;> try rfl)
  all_goals (simp only [ixE]; split <;> rfl)
def binE (o : BinOp) (a b : LV) : Option LV :=
  match a, b with
  | .v (.int k x), .v (.int k' y) => (evBin o k x k' y).map .v
  | _, _ => none
theorem A_bin {o : BinOp} {a b : MO} : evAny cal q lim (.bin o a b) t h = (binE o (ev t a) (ev t b)).map (withH h) := by
  simp only [evAny, evOp]
  generalize ev t a = x
  generalize ev t b = y
  cases x <;> try rfl
  rename_i x
  cases x <;> try rfl
  rename_i k x
  cases y <;> try rfl
  rename_i y
  cases y <;> try rfl
  rename_i k' y
  simp only [binE]
  cases evBin o k x k' y <;> rfl
section
variable {k : IntKind} {x y : Int} {k' : IntKind}
theorem bin_add : binE .add (.v (.int k x)) (.v (.int k y)) = some (.v (.int k (k.wrap (x + y)))) := by simp [binE, evBin]
theorem bin_sub : binE .sub (.v (.int k x)) (.v (.int k y)) = some (.v (.int k (k.wrap (x - y)))) := by simp [binE, evBin]
theorem bin_mul : binE .mul (.v (.int k x)) (.v (.int k y)) = some (.v (.int k (k.wrap (x * y)))) := by simp [binE, evBin]
theorem bin_quo : binE .quo (.v (.int k x)) (.v (.int k y)) = if y = 0 then none else some (.v (.int k (k.wrap (x.tdiv y)))) := by simp only [binE, evBin, if_true]; split <;> rfl
theorem bin_rem : binE .rem (.v (.int k x)) (.v (.int k y)) = if y = 0 then none else some (.v (.int k (x.tmod y))) := by simp only [binE, evBin, if_true]; split <;> rfl
theorem bin_and : binE .and (.v (.int k x)) (.v (.int k y)) = some (.v (.int k (bits .and k x y))) := by simp [binE, evBin]
theorem bin_or : binE .or (.v (.int k x)) (.v (.int k y)) = some (.v (.int k (bits .or k x y))) := by simp [binE, evBin]
theorem bin_xor : binE .xor (.v (.int k x)) (.v (.int k y)) = some (.v (.int k (bits .xor k x y))) := by simp [binE, evBin]
theorem bin_andNot : binE .andNot (.v (.int k x)) (.v (.int k y)) = some (.v (.int k (bits .andNot k x y))) := by simp [binE, evBin]
theorem bin_shl : binE .shl (.v (.int k x)) (.v (.int k' y)) = if y < 0 then none else some (.v (.int k (k.wrap (x * 2 ^ (min y.toNat k.bits))))) := by
  simp only [binE, evBin]; split <;> rfl
theorem bin_shr : binE .shr (.v (.int k x)) (.v (.int k' y)) = if y < 0 then none else some (.v (.int k (x.fdiv (2 ^ (min y.toNat k.bits))))) := by
  simp only [binE, evBin]; split <;> rfl
theorem bin_eql : binE .eql (.v (.int k x)) (.v (.int k y)) = some (.v (.bool (decide (x = y)))) := by simp [binE, evBin]
theorem bin_neq : binE .neq (.v (.int k x)) (.v (.int k y)) = some (.v (.bool (!decide (x = y)))) := by simp [binE, evBin]
theorem bin_lss : binE .lss (.v (.int k x)) (.v (.int k y)) = some (.v (.bool (decide (x < y)))) := by simp [binE, evBin]
theorem bin_leq : binE .leq (.v (.int k x)) (.v (.int k y)) = some (.v (.bool (decide (x ≤ y)))) := by simp [binE, evBin]
theorem bin_gtr : binE .gtr (.v (.int k x)) (.v (.int k y)) = some (.v (.bool (decide (y < x)))) := by simp [binE, evBin]
theorem bin_geq : binE .geq (.v (.int k x)) (.v (.int k y)) = some (.v (.bool (decide (y ≤ x)))) := by simp [binE, evBin]
end
def eqvE (neg ag : Bool) (ks : List Kd) (a b : LV) : Option Bool :=
  match a, b with
  | .agg xs, .agg ys => if ag then (eqCells ks xs ys).map fun p => if neg then !p else p else none
  | x, y => if ag then none else (eqCells ks [x] [y]).map fun p => if neg then !p else p
def ofB (p : Bool) : LV := .v (.bool p)
theorem ofB_mk {p : Bool} : ofB p = .v (.bool p) := rfl
theorem A_eqv {neg ag : Bool} {ks : List Kd} {a b : MO} : evAny cal q lim (.eqv neg ag ks a b) t h = ((eqvE neg ag ks (ev t a) (ev t b)).map ofB).map (withH h) := by
  simp only [evAny, evOp]
  generalize ev t a = x
  generalize ev t b = y
  have g1 : ∀ o : Option Bool, Option.map (fun q => (LV.v (.bool (if neg then !q else q)), h)) o = Option.map (withH h) (Option.map ofB (o.map fun p => if neg then !p else p)) := by
    intro o; cases o <;> rfl
  cases x <;> cases y <;> (simp only [eqvE]; split <;> first | rfl | exact g1 _)
def eqCB : List Kd → List LV → List LV → Option Bool
  | [], [], [] => some true
  | k :: ks, .v x :: xs, .v y :: ys => (eqAtom k x y).bind fun a => (eqCB ks xs ys).map fun b => a && b
  | _, _, _ => none
theorem eqCells_CB {ks : List Kd} : ∀ {xs ys : List LV}, eqCells ks xs ys = eqCB ks xs ys := by
  induction ks with
  | nil => intro xs ys; cases xs <;> cases ys <;> rfl
  | cons k ks ih =>
    intro xs ys
    cases xs with
    | nil => rfl
    | cons x xs =>
      cases ys with
      | nil => cases x <;> rfl
      | cons y ys =>
        cases x <;> try rfl
        cases y <;> try rfl
        rename_i x y
        simp only [eqCells, eqCB, ih]
        cases eqAtom k x y with
        | none => cases eqCB ks xs ys <;> rfl
        | some a => cases eqCB ks xs ys <;> rfl
theorem A_eqn {neg : Bool} {nk : Nat} {a : MO} : evAny cal q lim (.eqn neg nk a) t h = (nilQ nk (ev t a)).map fun p => (.v (.bool (if neg then !p else p)), h) := rfl
theorem A_un {o : UnOp} {a : MO} : evAny cal q lim (.un o a) t h = (evUn o (ev t a)).map (withH h) := rfl
def convE (k : IntKind) : LV → Option LV
  | .v (.int _ n) => some (.v (.int k (k.wrap n)))
  | _ => none
theorem convE_i {k k' : IntKind} {x : Int} : convE k (.v (.int k' x)) = some (.v (.int k (k.wrap x))) := rfl
theorem A_conv {k : IntKind} {a : MO} : evAny cal q lim (.conv k a) t h = (convE k (ev t a)).map (withH h) := by
  simp only [evAny, evOp]
  generalize ev t a = x
  cases x <;> first | rfl | (rename_i x; cases x <;> rfl)
def extE (i : Nat) : LV → Option LV
  | .tup cs => cs[i]?
  | _ => none
theorem extE_0 {x : LV} {l : List LV} : extE 0 (.tup (x :: l)) = some x := rfl
theorem extE_1 {x y : LV} {l : List LV} : extE 1 (.tup (x :: y :: l)) = some y := rfl
theorem extE_s {i : Nat} {x : LV} {l : List LV} : extE (i + 1) (.tup (x :: l)) = extE i (.tup l) := rfl
theorem A_ext {a : MO} {i : Nat} : evAny cal q lim (.ext a i) t h = (extE i (ev t a)).map (withH h) := by
  simp only [evAny, evOp]
  generalize ev t a = x
  cases x <;> first | rfl | (rename_i x; cases x <;> rfl)
def aggH (h : List Row) (cs : List LV) : LV × List Row := (.agg cs, h)
theorem aggH_mk {cs : List LV} : aggH h cs = (.agg cs, h) := rfl
theorem A_bld {z : List LV} {ps : List (Nat × Nat × MO)} : evAny cal q lim (.bld z ps) t h = (fillP t z ps).map (aggH h) := rfl
def imH (len : Nat) (h : List Row) (cs : List LV) : LV × List Row := (.im cs len true, h)
theorem imH_mk {len : Nat} {cs : List LV} : imH len h cs = (.im cs len true, h) := rfl
theorem A_bsl {z : List LV} {len : Nat} {ps : List (Nat × Nat × MO)} : evAny cal q lim (.bsl z len ps) t h = (fillP t (repC z len) ps).map (imH len h) := rfl
theorem A_mkf {f : FuncId} {caps : List MO} : evAny cal q lim (.mkf f caps) t h = some (.f f (caps.map (ev t)), h) := rfl
theorem A_ifc {ty : TypeId} {a : MO} : evAny cal q lim (.ifc ty a) t h = some (.ifc ty (ev t a), h) := rfl
def nilcE : LV → Option LV
  | .p k ver off => some (.p k ver off)
  | .pi cs => some (.pi cs)
  | .f fn cap => some (.f fn cap)
  | .ifc ty x => some (.ifc ty x)
  | _ => none
theorem nilc_p {k ver off : Nat} : nilcE (.p k ver off) = some (.p k ver off) := rfl
theorem nilc_pi {cs : List LV} : nilcE (.pi cs) = some (.pi cs) := rfl
theorem nilc_f {fn : FuncId} {cap : List LV} : nilcE (.f fn cap) = some (.f fn cap) := rfl
theorem nilc_ifc {ty : TypeId} {x : LV} : nilcE (.ifc ty x) = some (.ifc ty x) := rfl
theorem A_nilc {a : MO} : evAny cal q lim (.nilc a) t h = (nilcE (ev t a)).map (withH h) := by
  simp only [evAny, evOp]
  generalize ev t a = x
  cases x <;> first | rfl | (rename_i x; cases x <;> rfl)
def lenE : LV → Option LV
  | .sl _ _ _ len _ _ => some (.i len)
  | .im _ len _ => some (.i len)
  | .v (.slice _ n _) => some (.i n)
  | _ => none
theorem lenE_sl {k ver off len esz cap : Nat} : lenE (.sl k ver off len esz cap) = some (.i len) := rfl
theorem lenE_im {cs : List LV} {len : Nat} {fl : Bool} : lenE (.im cs len fl) = some (.i len) := rfl
theorem lenE_nil : lenE (.v (.slice none 0 0)) = some (.i 0) := rfl
theorem A_len {a : MO} : evAny cal q lim (.len a) t h = (lenE (ev t a)).map (withH h) := by
  simp only [evAny, evOp]
  generalize ev t a = x
  cases x <;> first | rfl | (rename_i x; cases x <;> rfl)
def slcE (h : List Row) (esz : Nat) (lv : LV) : Option Int → Option Int → Option (Option Int) → Option LV
  | some x, some y, some z => partE h esz lv x y z
  | _, _, _ => none
theorem slcE_some {esz : Nat} {lv : LV} {x y : Int} {z : Option Int} : slcE h esz lv (some x) (some y) (some z) = partE h esz lv x y z := rfl
def intV : LV → Option Int
  | .v (.int _ j) => some j
  | _ => none
theorem intV_int {k : IntKind} {j : Int} : intV (.v (.int k j)) = some j := rfl
theorem bnd_none {d : Nat} : bndE t none d = some (d : Int) := rfl
theorem bnd_some {m : MO} {d : Nat} : bndE t (some m) d = intV (ev t m) := rfl
def maxI : LV → Option (Option Int)
  | .v (.int _ j) => some (some j)
  | _ => none
theorem maxI_int {k : IntKind} {j : Int} : maxI (.v (.int k j)) = some (some j) := rfl
theorem maxE_none : maxE t none = some none := rfl
theorem maxE_some {m : MO} : maxE t (some m) = maxI (ev t m) := rfl
def partR (esz k ver off e cap : Nat) (lo hi : Int) : Option Int → Option (List LV) → Option LV
  | none, some _ => if e = esz ∧ 0 ≤ lo ∧ lo ≤ hi ∧ hi ≤ (cap : Int) then some (if lo = (cap : Int) then .im [] 0 false else .sl k ver (off + lo.toNat * esz) (hi.toNat - lo.toNat) esz (cap - lo.toNat)) else none
  | some m, some _ => if e = esz ∧ 0 ≤ lo ∧ lo ≤ hi ∧ hi ≤ m ∧ m ≤ (cap : Int) then some (if lo = m then .im [] 0 true else .sl k ver (off + lo.toNat * esz) (hi.toNat - lo.toNat) esz (m.toNat - lo.toNat)) else none
  | _, none => none
theorem partR_n {esz k ver off e cap : Nat} {lo hi : Int} {cs : List LV} : partR esz k ver off e cap lo hi none (some cs) = if e = esz ∧ 0 ≤ lo ∧ lo ≤ hi ∧ hi ≤ (cap : Int) then some (if lo = (cap : Int) then .im [] 0 false else .sl k ver (off + lo.toNat * esz) (hi.toNat - lo.toNat) esz (cap - lo.toNat)) else none := rfl
theorem partR_s {esz k ver off e cap : Nat} {lo hi m : Int} {cs : List LV} : partR esz k ver off e cap lo hi (some m) (some cs) = if e = esz ∧ 0 ≤ lo ∧ lo ≤ hi ∧ hi ≤ m ∧ m ≤ (cap : Int) then some (if lo = m then .im [] 0 true else .sl k ver (off + lo.toNat * esz) (hi.toNat - lo.toNat) esz (m.toNat - lo.toNat)) else none := rfl
theorem part_sl {esz k ver off len e cap : Nat} {lo hi : Int} {mx : Option Int} : partE h esz (.sl k ver off len e cap) lo hi mx = partR esz k ver off e cap lo hi mx (rowOf h k ver) := by
  simp only [partE]
  cases rowOf h k ver <;> cases mx <;> rfl
theorem part_im_n {esz len : Nat} {cs : List LV} {full : Bool} {lo hi : Int} : partE h esz (.im cs len full) lo hi none = if 0 ≤ lo ∧ lo ≤ hi ∧ hi ≤ (len : Int) then some (if lo = hi then .im [] 0 false else .im ((cs.drop (lo.toNat * esz)).take ((hi.toNat - lo.toNat) * esz)) (hi.toNat - lo.toNat) (full && decide (hi = (len : Int)))) else none := rfl
theorem part_im_s {esz len : Nat} {cs : List LV} {full : Bool} {lo hi m : Int} : partE h esz (.im cs len full) lo hi (some m) = if 0 ≤ lo ∧ lo ≤ hi ∧ hi ≤ m ∧ m ≤ (len : Int) then some (if lo = hi then .im [] 0 (decide (m = hi)) else .im ((cs.drop (lo.toNat * esz)).take ((hi.toNat - lo.toNat) * esz)) (hi.toNat - lo.toNat) (decide (m = hi))) else none := rfl
theorem part_nil {esz : Nat} {lo hi : Int} {mx : Option Int} : partE h esz (.v (.slice none 0 0)) lo hi mx = if lo = 0 ∧ hi = 0 ∧ mx.getD 0 = 0 then some (.v (.slice none 0 0)) else none := rfl
theorem lenN_sl {k ver off len e cap : Nat} : lenN (.sl k ver off len e cap) = len := rfl
theorem lenN_im {cs : List LV} {len : Nat} {full : Bool} : lenN (.im cs len full) = len := rfl
theorem lenN_v {v : Value} : lenN (.v v) = 0 := rfl
theorem A_slc {a : MO} {lo hi mx : Option MO} {esz : Nat} : evAny cal q lim (.slc a lo hi mx esz) t h = (slcE h esz (ev t a) (bndE t lo 0) (bndE t hi (lenN (ev t a))) (maxE t mx)).map (withH h) := by
  simp only [evAny, evOp]
  cases bndE t lo 0 <;> cases bndE t hi (lenN (ev t a)) <;> cases maxE t mx <;> rfl
def sapE (n : Nat) : LV → Option LV
  | .sl k ver off len _ _ => if n ≤ len then some (.p k ver off) else none
  | .im cs len _ => if n ≤ len then some (.pi cs) else none
  | _ => none
theorem sapE_sl {n k ver off len e cap : Nat} : sapE n (.sl k ver off len e cap) = if n ≤ len then some (.p k ver off) else none := rfl
theorem sapE_im {n len : Nat} {cs : List LV} {full : Bool} : sapE n (.im cs len full) = if n ≤ len then some (.pi cs) else none := rfl
theorem A_sap {a : MO} {n : Nat} : evAny cal q lim (.sap a n) t h = (sapE n (ev t a)).map (withH h) := by
  simp only [evAny, evOp]
  generalize ev t a = x
  cases x <;> first
    | rfl
    | (simp only [sapE]; split <;> rfl)
def sstE : LV → LV → LV → Option LV
  | .v (.string s), .v (.int _ i), .v (.int _ j) => if 0 ≤ i ∧ i ≤ j ∧ j ≤ (s.size : Int) then some (.v (.string (s.extract i.toNat j.toNat))) else none
  | _, _, _ => none
theorem sstE_mk {s : ByteArray} {k k' : IntKind} {i j : Int} : sstE (.v (.string s)) (.v (.int k i)) (.v (.int k' j)) = if 0 ≤ i ∧ i ≤ j ∧ j ≤ (s.size : Int) then some (.v (.string (s.extract i.toNat j.toNat))) else none := rfl
theorem A_sst {a lo hi : MO} : evAny cal q lim (.sst a lo hi) t h = (sstE (ev t a) (ev t lo) (ev t hi)).map (withH h) := by
  simp only [evAny, evOp]
  generalize ev t a = x
  generalize ev t lo = y
  generalize ev t hi = z
  unfold sstE
  split
  · show (if _ then _ else _) = Option.map _ (if _ then _ else _)
    split <;> rfl
  · rename_i hno
    split
    · exact absurd rfl (hno _ _ _ _ _ rfl rfl)
    · rfl
def bstR (off len e : Nat) : Option (List LV) → Option LV
  | some cs => if e = 1 ∧ off + len ≤ cs.length then (bytesE ((cs.drop off).take len)).map fun ns => .v (.string (strE ns)) else none
  | none => none
theorem bstR_some {off len e : Nat} {cs : List LV} : bstR off len e (some cs) = if e = 1 ∧ off + len ≤ cs.length then (bytesE ((cs.drop off).take len)).map fun ns => .v (.string (strE ns)) else none := rfl
def bstE (h : List Row) : LV → Option LV
  | .sl k ver off len e _ => bstR off len e (rowOf h k ver)
  | .v (.slice none 0 0) => some (.v (.string ⟨#[]⟩))
  | _ => none
theorem bstE_sl {k ver off len e cap : Nat} : bstE h (.sl k ver off len e cap) = bstR off len e (rowOf h k ver) := rfl
theorem bstE_nil : bstE h (.v (.slice none 0 0)) = some (.v (.string ⟨#[]⟩)) := rfl
theorem bytesE_nil : bytesE [] = some [] := rfl
theorem bytesE_cons {x : Int} {l : List LV} : bytesE (.v (.int .u8 x) :: l) = (bytesE l).map (x :: ·) := rfl
theorem A_bst {a : MO} : evAny cal q lim (.bst a) t h = (bstE h (ev t a)).map (withH h) := by
  simp only [evAny, evOp]
  generalize ev t a = x
  unfold bstE
  split
  · rename_i k ver off len e cap
    show _ = Option.map (withH h) (bstR off len e (rowOf h k ver))
    unfold bstR
    cases hr : rowOf h k ver with
    | none => rfl
    | some cs =>
      by_cases hc : e = 1 ∧ off + len ≤ cs.length
      · simp only [if_pos hc]
        cases bytesE _ <;> rfl
      · simp only [if_neg hc]
        rfl
  · rfl
  · rename_i h1 h2
    split
    · exact absurd rfl (h1 _ _ _ _ _ _)
    · exact absurd rfl h2
    · rfl
def mksE (h : List Row) (zero : List LV) (esz bytes : Nat) : LV → LV → Option (LV × List Row)
  | .v (.int _ n), .v (.int _ m) => if n = m ∧ 0 ≤ n ∧ n ≤ 9223372036854775807 ∧ n.toNat * bytes ≤ 140737488355328 then some (.sl h.length 0 0 n.toNat esz n.toNat, h ++ [⟨0, repC zero n.toNat⟩]) else none
  | _, _ => none
theorem mksE_int {k k' : IntKind} {n m : Int} {zero : List LV} {esz bytes : Nat} : mksE h zero esz bytes (.v (.int k n)) (.v (.int k' m)) = if n = m ∧ 0 ≤ n ∧ n ≤ 9223372036854775807 ∧ n.toNat * bytes ≤ 140737488355328 then some (.sl h.length 0 0 n.toNat esz n.toNat, h ++ [⟨0, repC zero n.toNat⟩]) else none := rfl
theorem A_mks {a b : MO} {zero : List LV} {esz bytes : Nat} : evAny cal q lim (.mks a b zero esz bytes) t h = mksE h zero esz bytes (ev t a) (ev t b) := by
  simp only [evAny, evOp]
  rfl
def clrR (h : List Row) (zero : List LV) (esz k ver off len e : Nat) : Option (List LV) → Option (LV × List Row)
  | some cs => if e = esz ∧ off + len * esz ≤ cs.length ∧ zero.all atomB = true then some (.tup [], h.set k ⟨ver, putR cs off (repC zero len)⟩) else none
  | none => none
theorem clrR_some {zero cs : List LV} {esz k ver off len e : Nat} : clrR h zero esz k ver off len e (some cs) = if e = esz ∧ off + len * esz ≤ cs.length ∧ zero.all atomB = true then some (.tup [], h.set k ⟨ver, putR cs off (repC zero len)⟩) else none := rfl
def clrE (h : List Row) (lim : Nat) (zero : List LV) (esz : Nat) : LV → Option (LV × List Row)
  | .sl k ver off len e _ => if k < lim then none else clrR h zero esz k ver off len e (rowOf h k ver)
  | .v (.slice none 0 0) => some (.tup [], h)
  | .im _ 0 _ => some (.tup [], h)
  | _ => none
theorem clrE_sl {zero : List LV} {esz k ver off len e cap : Nat} : clrE h lim zero esz (.sl k ver off len e cap) = if k < lim then none else clrR h zero esz k ver off len e (rowOf h k ver) := rfl
theorem clrE_nil {zero : List LV} {esz : Nat} : clrE h lim zero esz (.v (.slice none 0 0)) = some (.tup [], h) := rfl
theorem clrE_im {zero cs : List LV} {esz : Nat} {f : Bool} : clrE h lim zero esz (.im cs 0 f) = some (.tup [], h) := rfl
theorem A_clr {a : MO} {zero : List LV} {esz : Nat} : evAny cal q lim (.clr a zero esz) t h = clrE h lim zero esz (ev t a) := by
  simp only [evAny, evOp]
  generalize ev t a = x
  cases x with
  | sl k ver off len e cap => simp only [clrE_sl]; split <;> first | rfl | (cases rowOf h k ver <;> rfl)
  | _ => rfl
def tasE (ty : TypeId) (ok : Bool) (zero : LV) : LV → Option LV
  | .v .nilIface => if ok then some (.tup [zero, .b false]) else none
  | .ifc d x => if d = ty then some (if ok then .tup [x, .b true] else x) else if ok then some (.tup [zero, .b false]) else none
  | _ => none
theorem tasE_nil {ty : TypeId} {ok : Bool} {zero : LV} : tasE ty ok zero (.v .nilIface) = if ok then some (.tup [zero, .b false]) else none := rfl
theorem tasE_ifc {ty d : TypeId} {ok : Bool} {zero x : LV} : tasE ty ok zero (.ifc d x) = if d = ty then some (if ok then .tup [x, .b true] else x) else if ok then some (.tup [zero, .b false]) else none := rfl
theorem A_tas {a : MO} {ty : TypeId} {ok : Bool} {zero : LV} : evAny cal q lim (.tas a ty ok zero) t h = (tasE ty ok zero (ev t a)).map (withH h) := by
  simp only [evAny, evOp]
  generalize ev t a = x
  cases x with
  | v x => cases x <;> first | rfl | (simp only [tasE]; split <;> rfl)
  | ifc d x => simp only [tasE]; split <;> first | rfl | (split <;> rfl)
  | _ => rfl
theorem A_mm {b : Bool} {x : MO} {as : List MO} : evAny cal q lim (.mm b (x :: as)) t h = (mmInt b (ev t x) (as.map (ev t))).map (withH h) := rfl
def appK (lim : Nat) (h : List Row) (esz bytes : Nat) (x : LV) (p : List LV × Nat) : Option (LV × List Row) := appE lim h esz bytes p.1 p.2 x
theorem appK_mk {esz bytes m : Nat} {x : LV} {new : List LV} : appK lim h esz bytes x (new, m) = appE lim h esz bytes new m x := rfl
theorem A_app {a b : MO} {esz bytes : Nat} : evAny cal q lim (.app a b esz bytes) t h = (newsE h esz (ev t b)).bind (appK lim h esz bytes (ev t a)) := by
  simp only [evAny, evOp]
  cases newsE h esz (ev t b) <;> rfl
theorem news_im {esz m : Nat} {new : List LV} {f : Bool} : newsE h esz (.im new m f) = if new.length = m * esz ∧ new.all atomB = true then some (new, m) else none := rfl
theorem news_nil {esz : Nat} : newsE h esz (.v (.slice none 0 0)) = some ([], 0) := rfl
def newsR (esz off m e : Nat) : Option (List LV) → Option (List LV × Nat)
  | some cs => if e = esz ∧ off + m * esz ≤ cs.length ∧ ((cs.drop off).take (m * esz)).all atomB = true then some ((cs.drop off).take (m * esz), m) else none
  | none => none
theorem newsR_some {esz off m e : Nat} {cs : List LV} : newsR esz off m e (some cs) = if e = esz ∧ off + m * esz ≤ cs.length ∧ ((cs.drop off).take (m * esz)).all atomB = true then some ((cs.drop off).take (m * esz), m) else none := rfl
theorem news_sl {esz k ver off m e cap : Nat} : newsE h esz (.sl k ver off m e cap) = newsR esz off m e (rowOf h k ver) := by
  simp only [newsE]
  cases rowOf h k ver <;> rfl
theorem appE_nil {esz bytes m : Nat} {new : List LV} : appE lim h esz bytes new m (.v (.slice none 0 0)) = if m = 0 then some (.v (.slice none 0 0), h) else if m ≤ 9223372036854775807 ∧ m * bytes ≤ 140737488355328 then some (.sl h.length 0 0 m esz m, h ++ [⟨0, new⟩]) else none := rfl
def appRow (k ver off len e cap esz bytes m : Nat) (h : List Row) (new : List LV) : Option (List LV) → Option (LV × List Row)
  | some cs => if e = esz ∧ len + m ≤ cap ∧ off + (len + m) * esz ≤ cs.length then some (.sl k ver off (len + m) esz cap, h.set k ⟨ver, putR cs (off + len * esz) new⟩)
      else if 0 < m ∧ off = 0 ∧ e = esz ∧ cs.length = len * esz ∧ len + m ≤ 9223372036854775807 ∧ (len + m) * bytes ≤ 140737488355328 then some (.sl k (ver + 1) 0 (len + m) esz (len + m), h.set k ⟨ver + 1, cs ++ new⟩) else none
  | none => none
theorem appE_sl {k ver off len e cap esz bytes m : Nat} {new : List LV} : appE lim h esz bytes new m (.sl k ver off len e cap) = if k < lim then none else appRow k ver off len e cap esz bytes m h new (rowOf h k ver) := by
  simp only [appE]
  cases rowOf h k ver <;> rfl
theorem appRow_some {k ver off len e cap esz bytes m : Nat} {new cs : List LV} : appRow k ver off len e cap esz bytes m h new (some cs) = if e = esz ∧ len + m ≤ cap ∧ off + (len + m) * esz ≤ cs.length then some (.sl k ver off (len + m) esz cap, h.set k ⟨ver, putR cs (off + len * esz) new⟩)
      else if 0 < m ∧ off = 0 ∧ e = esz ∧ cs.length = len * esz ∧ len + m ≤ 9223372036854775807 ∧ (len + m) * bytes ≤ 140737488355328 then some (.sl k (ver + 1) 0 (len + m) esz (len + m), h.set k ⟨ver + 1, cs ++ new⟩) else none := rfl
theorem appE_im {len esz bytes m : Nat} {new cells : List LV} {full : Bool} : appE lim h esz bytes new m (.im cells len full) = if m = 0 then some (.im cells len full, h) else if full = true ∧ cells.length = len * esz ∧ len + m ≤ 9223372036854775807 ∧ (len + m) * bytes ≤ 140737488355328 then some (.sl h.length 0 0 (len + m) esz (len + m), h ++ [⟨0, cells ++ new⟩]) else none := rfl
theorem not_succ_le {n : Nat} : (n + 1 ≤ n) = False := by simp
theorem cleanK_mk {kp fg : List Nat} {n lim : Nat} {t : List LV} {h : List Row} : cleanK kp fg n lim (t, h) = if lim = 0 ∧ n < h.length then cleanS n (keepK n (trefs kp (forget fg t) ++ rrefs (h.take n)) (h.length - n)) (forget fg t) h else (forget fg t, h) := rfl
theorem cleanS_mk {n : Nat} {K : List Nat} {t : List LV} {h : List Row} : cleanS n K t h = (kpurgeL n K t, (h.take n).map (fun r => ⟨r.ver, kpurgeL n K r.cells⟩) ++ K.map (rowK n K h)) := rfl
theorem srefs_sl {k ver off len esz cap : Nat} : srefs (.sl k ver off len esz cap) = [k] := rfl
theorem srefs_v {x : Value} : srefs (.v x) = [] := rfl
theorem srefs_p {k ver off : Nat} : srefs (.p k ver off) = [] := rfl
theorem srefs_f {fn : FuncId} {cap : List LV} : srefs (.f fn cap) = [] := rfl
theorem srefs_im {cs : List LV} {len : Nat} {f : Bool} : srefs (.im cs len f) = [] := rfl
theorem srefs_agg {cs : List LV} : srefs (.agg cs) = [] := rfl
theorem srefs_bad : srefs .bad = [] := rfl
theorem srefs_ifc {ty : TypeId} {x : LV} : srefs (.ifc ty x) = [] := rfl
theorem rowK_eq {n k : Nat} {K : List Nat} {h : List Row} : rowK n K h k = ((h[k]?).map fun r => (⟨r.ver, kpurgeL n K r.cells⟩ : Row)).getD ⟨0, []⟩ := by
  unfold rowK
  cases h[k]? <;> rfl
theorem kpurge_slK {n k ver off len esz cap : Nat} {K : List Nat} : kpurge n K (.sl k ver off len esz cap) = if k < n then .sl k ver off len esz cap else (match posn K k with | some j => .sl (n + j) ver off len esz cap | none => .bad) := rfl

/-- A call, its function and its arguments looked at. -/
def callE (cal : Callee) (quiet : Bool) (lim : Nat) (h : List Row) (f : LV) (as : List LV) : Option (LV × List Row) :=
  match f with
  | .f g cap => callG cal quiet lim h g (as ++ cap)
  | _ => none
def invK (cal : Callee) (quiet : Bool) (lim : Nat) (h : List Row) (x : LV) (as : List LV) : Option FuncId → Option (LV × List Row)
  | some g => callE cal quiet lim h (.f g []) (x :: as)
  | none => none
def invE (cal : Callee) (quiet : Bool) (lim : Nat) (h : List Row) (tab : List (TypeId × FuncId)) (x : LV) (as : List LV) : Option (LV × List Row) :=
  match x with
  | .ifc d x => invK cal quiet lim h x as (lookT tab d)
  | _ => none
theorem invE_ifc {tab : List (TypeId × FuncId)} {d : TypeId} {x : LV} {as : List LV} : invE cal q lim h tab (.ifc d x) as = invK cal q lim h x as (lookT tab d) := rfl
theorem invK_some {g : FuncId} {x : LV} {as : List LV} : invK cal q lim h x as (some g) = callE cal q lim h (.f g []) (x :: as) := rfl
theorem lookT_cons {a d : TypeId} {f : FuncId} {l : List (TypeId × FuncId)} : lookT ((a, f) :: l) d = if a = d then some f else lookT l d := rfl
theorem A_inv {tab : List (TypeId × FuncId)} {a : MO} {args : List MO} : evAny cal q lim (.inv tab a args) t h = invE cal q lim h tab (ev t a) (args.map (ev t)) := by
  simp only [evAny, evInv]
  generalize ev t a = x
  cases x with
  | ifc d x =>
    simp only [invE]
    cases lookT tab d with
    | none => rfl
    | some g => simp only [invK, callE, List.append_nil]
  | _ => rfl
theorem A_call {f : MO} {args : List MO} : evAny cal q lim (.call f args) t h = callE cal q lim h (ev t f) (args.map (ev t)) := rfl

/-- A call's own rows behind ours, or else the call in the heap as it is. -/
def impE (h : List Row) (x y : Option (LV × List Row)) : Option (LV × List Row) :=
  match x with
  | some (r, h1) => some (shL h.length r, h ++ shR h.length h1)
  | none => y
theorem impE_some {r : LV} {h1 : List Row} {y : Option (LV × List Row)} : impE h (some (r, h1)) y = some (shL h.length r, h ++ shR h.length h1) := rfl
theorem impE_none {y : Option (LV × List Row)} : impE h none y = y := rfl
/-- A closed call's answer, or (where it has none) the call by itself. -/
def orE (x : Option LV) (q : Bool) (cal : Callee) (g : FuncId) (args : List LV) (h : List Row) (lim : Nat) : Option (LV × List Row) :=
  match x with
  | some r => some (r, h)
  | none => if q then none else impE h (cal g args [] 0) (cal g args h lim)
theorem orE_some {r : LV} {g : FuncId} {args : List LV} : orE (some r) q cal g args h lim = some (r, h) := rfl
theorem orE_none {g : FuncId} {args : List LV} : orE none false cal g args h lim = impE h (cal g args [] 0) (cal g args h lim) := rfl
theorem orE_q {g : FuncId} {args : List LV} : orE none true cal g args h lim = none := rfl
theorem orE_ite {p : Prop} [Decidable p] {x y : Option LV} {g : FuncId} {args : List LV} : orE (if p then x else y) q cal g args h lim = if p then orE x q cal g args h lim else orE y q cal g args h lim := by split <;> rfl
theorem call_P {g : FuncId} {as cap : List LV} (hc : closedL (as ++ cap) = true) :
    callE cal q lim h (.f g cap) as = orE (evP cal g (as ++ cap)) q cal g (as ++ cap) h lim := by
  simp only [callE, callG, callQ, isoE, hc, if_true, evP]
  cases hcal : cal g (as ++ cap) [] 0 with
  | none => cases q <;> simp [orE, impE, hcal]
  | some r =>
    obtain ⟨r, h1⟩ := r
    simp only
    by_cases h2 : closed (frz h1 r) = true
    · cases q <;> simp [orE, h2]
    · cases q <;> simp [orE, h2, impE, hcal]

def outE (x : Option (Ex × St)) (res : List MR) : Option (LV × List Row) :=
  match x with
  | some (.nrm, s) => (evRes s.1 s.2 res).map fun r => (tupOf r, s.2)
  | some (.ret, s) => (evRes s.1 s.2 res).map fun r => (tupOf r, s.2)
  | _ => none
theorem runF_out {m : MF} {args : List LV} (ha : args.length = m.np) : runF cal n lim m args h = outE (evCode cal n lim m.body (args ++ List.replicate (m.nt - m.np) .u, h)) m.res := by
  exact if_pos ha
theorem out_ret {res : List MR} : outE (some (.ret, (t, h))) res = (evRes t h res).map fun r => (tupOf r, h) := rfl
theorem out_nrm {res : List MR} : outE (some (.nrm, (t, h))) res = (evRes t h res).map fun r => (tupOf r, h) := rfl

def consR (x : LV) (l : List LV) : List LV := x :: l
theorem R_nil : evRes t h [] = some [] := rfl
theorem R_t {i : Nat} {l : List MR} : evRes t h (.t i :: l) = (evRes t h l).map fun r => getT t i :: r := by
  simp only [evRes]; cases evRes t h l <;> rfl
def cellE (h : List Row) (m : Option Nat) : LV → Option LV
  | .p k ver off => (rowOf h k ver).bind fun cs => rdAt cs off m
  | _ => none
theorem cellE_p {m : Option Nat} {k ver off : Nat} : cellE h m (.p k ver off) = (rowOf h k ver).bind fun cs => rdAt cs off m := rfl
theorem R_cell {i : Nat} {m : Option Nat} {l : List MR} : evRes t h (.cell i m :: l) = (cellE h m (getT t i)).bind fun x => (evRes t h l).map fun r => x :: r := by
  simp only [evRes]
  generalize getT t i = x
  cases evRes t h l with
  | none =>
    simp only [Option.map_none]
    cases x <;> simp [cellE, Option.bind_fun_none]
  | some r =>
    cases x <;> try rfl
    rename_i k ver off
    simp only [cellE]
    generalize (rowOf h k ver).bind (fun cs => rdAt cs off m) = o
    cases o <;> rfl

theorem rowOf_0 {ver v' : Nat} {cs : List LV} : rowOf (⟨v', cs⟩ :: h) 0 ver = if v' = ver then some cs else none := rfl
theorem rowOf_s {r : Row} {k ver : Nat} : rowOf (r :: h) (k + 1) ver = rowOf h k ver := rfl

theorem bind_ite {α β : Type} {c : Prop} [Decidable c] {a b : Option α} {f : α → Option β} : (if c then a else b).bind f = if c then a.bind f else b.bind f := by split <;> rfl
theorem map_ite {α β : Type} {c : Prop} [Decidable c] {a b : Option α} {f : α → β} : (if c then a else b).map f = if c then a.map f else b.map f := by split <;> rfl
theorem out_ite {c : Prop} [Decidable c] {a b : Option (Ex × St)} {res : List MR} : outE (if c then a else b) res = if c then outE a res else outE b res := by split <;> rfl

def finP (r : LV × List Row) : Option LV := if closed (frz r.2 r.1) then some (frz r.2 r.1) else none
theorem P_eq {g : FuncId} {args : List LV} : evP cal g args = (cal g args [] 0).bind finP := by
  simp only [evP]
  cases cal g args [] 0 with
  | none => rfl
  | some r => rfl
theorem finP_mk {x : LV} : finP (x, h) = if closed (frz h x) then some (frz h x) else none := rfl
end

theorem evP_fun {cm : FuncId → Option ME} {g : FuncId} {m : MF} (hg : cm g = some (.n m)) (k : Nat) (args : List LV) (ha : args.length = m.np) :
    evP (evF cm (k + 1)) g args = (outE (evCode (evF cm k) k 0 m.body (args ++ List.replicate (m.nt - m.np) .u, [])) m.res).bind finP := by
  rw [P_eq]
  simp only [evF, hg]
  rw [runF_out ha]
end Go.Proofs.Ytjgnjpbplnmdmaa
