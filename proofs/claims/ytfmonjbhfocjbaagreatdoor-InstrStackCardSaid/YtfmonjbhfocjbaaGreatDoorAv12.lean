/- Code in tail form, what it comes to, and the limit of all its depths. -/
import Derived.Test.YtfmonjbhfocjbaaGreatDoorAv9
import Derived.Test.YtfmonjbhfocjbaaGreatDoorAv11
namespace Go.Av
open Go Go.RowKit

/-- a result of a function -/
inductive LR where
  | t (n : Nat)
  | c (ag : Bool) (n t : Nat)

/-- code in which every step is the last but for what follows it -/
inductive TC where
  | op (o : LOp) (k : TC)
  | again (o : LOp) (k : TC)
  | cond (c : Opd) (a b : TC)
  | ret (rs : List LR)
  | jump (l : Nat) (live : List Nat)
  | rng (fn : Nat) (f : Opd) (p np : Nat) (lv : List Nat) (e1 e2 : Nat) (k kr k1 k2 : TC)
  | rnd (n : Nat)
  | out (lv : List Nat)
  | bad

abbrev Res := Option (AV × Store)
abbrev CallO := Nat → List AV → Store → Res

def andR (x : Res) (f : AV → Store → Res) : Res :=
  match x with
  | some p => f p.1 p.2
  | none => none

def iff' (c : AV) (a b : Res) : Res :=
  match c with
  | .bool true => a
  | .bool false => b
  | _ => none

def guardO (c : AV) (b : Bool) (σ : Store) (r : Res) : Res :=
  match c with
  | .bool t => cond (t == b) r (some (.tup [], σ))
  | .tup [] => some (.tup [], σ)
  | _ => none

/-- numbers from here on stand for the loops over functions that are open -/
def yb : Nat := 1000000

def callV (C : CallO) (f : AV) (args : List AV) (σ : Store) : Res :=
  match f with
  | .fn (.func g) fs cs => cond (Nat.blt g yb) (C g (fs ++ args ++ cs) σ) none
  | .yld i => cond (Nat.blt i yb) (C (yb + i) args σ) none
  | _ => none

/-- a call of a function that is ranged over -/
def callR (C : CallO) (f : AV) (args : List AV) (σ : Store) : Res :=
  match f with
  | .fn (.func g) fs cs => cond (Nat.blt g yb) (C (yb + yb + g) (fs ++ args ++ cs) σ) none
  | _ => none

/-- an operation is done once more, and must come to the same -/
def againO (x : Res) (d : AV) (k : Res) : Res :=
  match x with
  | some p => if p.1 = d then k else none
  | none => none

def doO (C : CallO) (gl : Nat → AV) (env : Env) (σ : Store) : LO → Res
  | .call f args => callV C (ev gl env f) (args.map (ev gl env)) σ
  | lo => eLO gl env σ lo

def stepO (C : CallO) (gl : Nat → AV) (env : Env) (σ : Store) (o : LOp) : Res :=
  match o.gd with
  | none => doO C gl env σ o.op
  | some (t, b) => guardO (env t) b σ (doO C gl env σ o.op)

def oneR (σ : Store) (env : Env) : LR → Option AV
  | .t n => some (env n)
  | .c ag n t => eLoad σ ag n (env t)

def allR (σ : Store) (env : Env) : List LR → Option (List AV)
  | [] => some []
  | r :: rs => match oneR σ env r, allR σ env rs with
    | some v, some vs => some (v :: vs)
    | _, _ => none

def retR (σ : Store) (env : Env) : List LR → Option AV
  | [r] => oneR σ env r
  | rs => (allR σ env rs).map .tup

/-- how a loop over a function is left -/
def rngEnd (id e1 e2 : Nat) (k kr k1 k2 : Store → Res) (σ : Store) : Res :=
  match σ[id]? with
  | some (.loop la) => cond (la.st == .busy) none
      (cond (Nat.beq la.pend 0) (k (σ.set id (.loop { la with st := .exhausted })))
      (cond (Nat.beq la.pend 1) (kr (σ.set id (.loop { la with st := .exhausted })))
      (cond (Nat.beq la.pend (e1 + 2)) (k1 (σ.set id (.loop { la with st := .exhausted })))
      (cond (Nat.beq la.pend (e2 + 2)) (k2 (σ.set id (.loop { la with st := .exhausted }))) none))))
  | _ => none

def run (C J : CallO) (gl : Nat → AV) : TC → Env → Store → Res
  | .op o k, env, σ => andR (stepO C gl env σ o) fun v σ' => run C J gl k (updO env o.dst v) σ'
  | .again o k, env, σ => againO (stepO C gl env σ o) (match o.dst with | some d => env d | none => .tup []) (run C J gl k env σ)
  | .cond c a b, env, σ => iff' (ev gl env c) (run C J gl a env σ) (run C J gl b env σ)
  | .ret rs, env, σ => ret σ (retR σ env rs)
  | .jump l live, env, σ => J l (live.map env) σ
  | .rng fn f p np lv e1 e2 k kr k1 k2, env, σ =>
    andR (callR C (ev gl env f) [.yld σ.length] (σ ++ [.loop ⟨.ready, 0, fn, p, np, lv, lv.map env⟩])) fun _ σ' =>
      rngEnd σ.length e1 e2 (run C J gl k env) (run C J gl kr env) (run C J gl k1 env) (run C J gl k2 env) σ'
  | .rnd n, _, σ => some (.int .i64 n, σ)
  | .out lv, env, σ => some (.tup (lv.map env), σ)
  | .bad, _, _ => none

def envOf : List Nat → List AV → Env
  | t :: ts, v :: vs => upd (envOf ts vs) t v
  | _, _ => fun _ => .top

def envArgs (args : List AV) : Env := fun t => args.getD t (.tup [])

/-- how a function's arguments and results are treated -/
structure Pol where
  args : Bool
  res : Bool

structure FC where
  pol : Pol
  entry : TC
  labs : Nat → Option (List Nat × TC)

def inA (p : Pol) (args : List AV) : List AV := cond p.args args (args.map AV.weak)

/-- a result goes out: what the call made is dropped, if nothing speaks of it -/
def outR (p : Pol) (σ : Store) (v : AV) (σ' : Store) : AV × Store :=
  cond p.res
    (match v with
    | .sl (.tok t) es els =>
      if AV.pureL (AV.weakL els) = true ∧ keptS σ.length σ σ' ∧ σ.length ≤ σ'.length then
        (if t < σ.length then (.sl (.tok t) es (AV.weakL els), σ'.take σ.length)
         else match σ'[t]? with
          | some (.tok ty top) => (.sl (.tok σ.length) es (AV.weakL els), σ'.take σ.length ++ [.tok ty top])
          | _ => (v, σ'))
      else (v, σ')
    | .sl o es els =>
      if AV.pureL (AV.weakL els) = true ∧ keptS σ.length σ σ' ∧ σ.length ≤ σ'.length then (.sl o es (AV.weakL els), σ'.take σ.length) else (v, σ')
    | v => if v.weak.pure = true ∧ keptS σ.length σ σ' ∧ σ.length ≤ σ'.length then (v.weak, σ'.take σ.length) else (v, σ'))
    (if v.weak.pure = true ∧ keptS σ.length σ σ' ∧ σ.length ≤ σ'.length then (v.weak, σ'.take σ.length) else (v.weak, σ'))

def finR (p : Pol) (σ : Store) (r : Res) : Res :=
  match r with
  | some q => some (outR p σ q.1 q.2)
  | none => none

structure AP where
  gl : Nat → AV
  codes : Nat → Option FC
  ext : CallO

/-- one round of a loop over a function -/
def yEnd (id : Nat) (r : Res) : Res :=
  match r with
  | some (.int .i64 n, σ') => match σ'[id]? with
    | some (.loop la) => some (.bool (Nat.beq n.toNat 0), σ'.set id (.loop { la with st := cond (Nat.beq n.toNat 0) .ready .done, pend := n.toNat }))
    | _ => none
  | _ => none

def yMid (J : Nat → CallO) (id fn p : Nat) (r : Res) : Res :=
  match r with
  | some (.tup vs, σ') => match σ'[id]? with
    | some (.loop la) => cond (la.st == .ready) (yEnd id (J fn (2 * p + 1) vs (σ'.set id (.loop { la with st := .busy })))) none
    | _ => none
  | _ => none

def yieldR (J : Nat → CallO) (id : Nat) (args : List AV) (σ : Store) : Res :=
  match σ[id]? with
  | some (.loop la) => cond (Nat.beq args.length la.np) (yMid J id la.fn la.p (J la.fn la.p (args ++ la.caps) σ)) none
  | _ => none

def sem (A : AP) : Nat → CallO × (Nat → CallO)
  | 0 => (fun _ _ _ => none, fun _ _ _ _ => none)
  | n + 1 =>
    (fun f args σ => cond (Nat.blt f yb)
      (match A.codes f with
        | some fc => finR fc.pol σ (run (sem A n).1 ((sem A n).2 f) A.gl fc.entry (envArgs (inA fc.pol args)) σ)
        | none => A.ext f args σ)
      (cond (Nat.blt f (yb + yb)) (yieldR (sem A n).2 (f - yb) args σ)
      (match A.codes (f - (yb + yb)) with
        | some fc => finR fc.pol σ (run (sem A n).1 ((sem A n).2 (f - (yb + yb))) A.gl fc.entry (envArgs (inA fc.pol args)) σ)
        | none => none)),
     fun f l vs σ => match A.codes f with
      | some fc => match fc.labs l with
        | some (live, tc) => run (sem A n).1 ((sem A n).2 f) A.gl tc (envOf live vs) σ
        | none => none
      | none => none)

def LeC (C C' : CallO) : Prop := ∀ f a σ r, C f a σ = some r → C' f a σ = some r

theorem LeC.refl (C : CallO) : LeC C C := fun _ _ _ _ h => h
theorem LeC.trans {A B C : CallO} (h : LeC A B) (k : LeC B C) : LeC A C := fun f a σ r e => k f a σ r (h f a σ r e)

theorem andR_some {x : Res} {f : AV → Store → Res} {r : AV × Store} (h : andR x f = some r) : ∃ p, x = some p ∧ f p.1 p.2 = some r := by
  cases x with
  | none => cases h
  | some p => exact ⟨p, rfl, h⟩

theorem callV_mono {C C' : CallO} (h : LeC C C') {f : AV} {args : List AV} {σ : Store} {r : AV × Store} (he : callV C f args σ = some r) : callV C' f args σ = some r := by
  simp only [callV] at he ⊢
  split at he
  · rename_i g _ _
    cases hb : Nat.blt g yb with
    | true => rw [hb] at he; exact h _ _ _ _ he
    | false => rw [hb] at he; cases he
  · rename_i i
    cases hb : Nat.blt i yb with
    | true => rw [hb] at he; exact h _ _ _ _ he
    | false => rw [hb] at he; cases he
  · cases he

theorem callR_mono {C C' : CallO} (h : LeC C C') {f : AV} {args : List AV} {σ : Store} {r : AV × Store} (he : callR C f args σ = some r) : callR C' f args σ = some r := by
  simp only [callR] at he ⊢
  split at he
  · rename_i g _ _
    cases hb : Nat.blt g yb with
    | true => rw [hb] at he; exact h _ _ _ _ he
    | false => rw [hb] at he; cases he
  · cases he

theorem rngEnd_mono {id e1 e2 : Nat} {k kr k1 k2 l lr l1 l2 : Store → Res} (h0 : ∀ σ r, k σ = some r → l σ = some r) (hr : ∀ σ r, kr σ = some r → lr σ = some r) (h1 : ∀ σ r, k1 σ = some r → l1 σ = some r)
    (h2 : ∀ σ r, k2 σ = some r → l2 σ = some r) {σ : Store} {r : AV × Store} (he : rngEnd id e1 e2 k kr k1 k2 σ = some r) : rngEnd id e1 e2 l lr l1 l2 σ = some r := by
  unfold rngEnd at he ⊢
  split at he
  · rename_i la _
    revert he
    cases la.st == LoopState.busy <;> simp only [cond_true, cond_false] <;> intro he
    · revert he
      cases Nat.beq la.pend 0 <;> simp only [cond_true, cond_false] <;> intro he
      · revert he
        cases Nat.beq la.pend 1 <;> simp only [cond_true, cond_false] <;> intro he
        · revert he
          cases Nat.beq la.pend (e1 + 2) <;> simp only [cond_true, cond_false] <;> intro he
          · revert he
            cases Nat.beq la.pend (e2 + 2) <;> simp only [cond_true, cond_false] <;> intro he
            · cases he
            · exact h2 _ _ he
          · exact h1 _ _ he
        · exact hr _ _ he
      · exact h0 _ _ he
    · cases he
  · cases he

theorem yEnd_mono {id : Nat} {x y : Res} (h : ∀ r, x = some r → y = some r) {r : AV × Store} (he : yEnd id x = some r) : yEnd id y = some r := by
  cases x with
  | none => cases he
  | some q => rw [h q rfl]; exact he

theorem yMid_mono {J J' : Nat → CallO} (h : ∀ f, LeC (J f) (J' f)) {id fn p : Nat} {x y : Res} (hxy : ∀ r, x = some r → y = some r) {r : AV × Store} (he : yMid J id fn p x = some r) : yMid J' id fn p y = some r := by
  cases x with
  | none => cases he
  | some q =>
    rw [hxy q rfl]
    unfold yMid at he ⊢
    split at he
    · split at he
      · rename_i la _
        revert he
        cases (la.st == LoopState.ready) <;> simp only [cond_true, cond_false] <;> intro he
        · cases he
        · exact yEnd_mono (fun r hr => h _ _ _ _ _ hr) he
      · cases he
    · cases he

theorem yieldR_mono {J J' : Nat → CallO} (h : ∀ f, LeC (J f) (J' f)) {id : Nat} {args : List AV} {σ : Store} {r : AV × Store} (he : yieldR J id args σ = some r) : yieldR J' id args σ = some r := by
  unfold yieldR at he ⊢
  split at he
  · rename_i la _
    revert he
    cases (Nat.beq args.length la.np) <;> simp only [cond_true, cond_false] <;> intro he
    · cases he
    · exact yMid_mono h (fun r hr => h _ _ _ _ _ hr) he
  · cases he

theorem doO_mono {C C' : CallO} (h : LeC C C') {gl : Nat → AV} {env : Env} {σ : Store} {o : LO} {r : AV × Store} (he : doO C gl env σ o = some r) : doO C' gl env σ o = some r := by
  cases o <;> first | exact he | skip
  exact callV_mono h he

theorem guardO_mono {c : AV} {b : Bool} {σ : Store} {x y : Res} {r : AV × Store} (h : ∀ r, x = some r → y = some r) (he : guardO c b σ x = some r) : guardO c b σ y = some r := by
  unfold guardO at he ⊢
  split at he
  · rename_i t
    cases ht : (t == b) with
    | true => rw [ht] at he; exact h _ he
    | false => rw [ht] at he; exact he
  · exact he
  · cases he

theorem stepO_mono {C C' : CallO} (h : LeC C C') {gl : Nat → AV} {env : Env} {σ : Store} {o : LOp} {r : AV × Store} (he : stepO C gl env σ o = some r) : stepO C' gl env σ o = some r := by
  unfold stepO at he ⊢
  split at he
  · exact doO_mono h he
  · exact guardO_mono (fun _ h' => doO_mono h h') he

theorem againO_some {x k : Res} {d : AV} {r : AV × Store} (h : againO x d k = some r) : ∃ p, x = some p ∧ p.1 = d ∧ k = some r := by
  unfold againO at h
  split at h
  · rename_i p
    split at h
    · rename_i hp; exact ⟨p, rfl, hp, h⟩
    · cases h
  · cases h
theorem againO_pos {p : AV × Store} {d : AV} {k : Res} (h : p.1 = d) : againO (some p) d k = k := by
  simp only [againO]; exact if_pos h

theorem run_mono {C C' J J' : CallO} (h : LeC C C') (hj : LeC J J') {gl : Nat → AV} {r : AV × Store} : ∀ (tc : TC) {env : Env} {σ : Store}, run C J gl tc env σ = some r → run C' J' gl tc env σ = some r
  | .op o k, env, σ, he => by
    simp only [run] at he ⊢
    obtain ⟨p, h1, h2⟩ := andR_some he
    rw [stepO_mono h h1]
    exact run_mono h hj k h2
  | .again o k, env, σ, he => by
    simp only [run] at he ⊢
    obtain ⟨p, h1, h2, h3⟩ := againO_some he
    rw [stepO_mono h h1, againO_pos h2]
    exact run_mono h hj k h3
  | .cond c a b, env, σ, he => by
    simp only [run, iff'] at he ⊢
    split at he
    · exact run_mono h hj a he
    · exact run_mono h hj b he
    · cases he
  | .ret rs, _, _, he => he
  | .jump l live, _, _, he => hj _ _ _ _ he
  | .rng fn f p np lv e1 e2 k kr k1 k2, env, σ, he => by
    simp only [run] at he ⊢
    obtain ⟨q, h1, h2⟩ := andR_some he
    rw [callR_mono h h1]
    exact rngEnd_mono (fun _ _ => run_mono h hj k) (fun _ _ => run_mono h hj kr) (fun _ _ => run_mono h hj k1) (fun _ _ => run_mono h hj k2) h2
  | .rnd n, _, _, he => he
  | .out _, _, _, he => he
  | .bad, _, _, he => by cases he

theorem finR_mono {p : Pol} {σ : Store} {x y : Res} (h : ∀ r, x = some r → y = some r) {r : AV × Store} (he : finR p σ x = some r) : finR p σ y = some r := by
  cases x with
  | none => cases he
  | some q => rw [h q rfl]; exact he

theorem sem_mono1 (A : AP) : ∀ n, LeC (sem A n).1 (sem A (n + 1)).1 ∧ ∀ f, LeC ((sem A n).2 f) ((sem A (n + 1)).2 f)
  | 0 => ⟨fun _ _ _ _ h => (by cases h), fun _ _ _ _ _ h => (by cases h)⟩
  | n + 1 => by
    obtain ⟨h1, h2⟩ := sem_mono1 A n
    refine ⟨fun f a σ r he => ?_, fun f l vs σ r he => ?_⟩
    · rw [sem] at he ⊢
      simp only at he ⊢
      revert he
      cases Nat.blt f yb <;> simp only [cond_true, cond_false] <;> intro he
      · revert he
        cases Nat.blt f (yb + yb) <;> simp only [cond_true, cond_false] <;> intro he
        · split at he
          · exact finR_mono (fun r hr => run_mono h1 (h2 _) _ hr) he
          · cases he
        · exact yieldR_mono h2 he
      · split at he
        · exact finR_mono (fun r hr => run_mono h1 (h2 f) _ hr) he
        · exact he
    · rw [sem] at he ⊢
      simp only at he ⊢
      split at he <;> first | (cases he; done) | skip
      split at he <;> first | (cases he; done) | skip
      exact run_mono h1 (h2 f) _ he

theorem sem_mono (A : AP) {n m : Nat} (h : n ≤ m) : LeC (sem A n).1 (sem A m).1 ∧ ∀ f, LeC ((sem A n).2 f) ((sem A m).2 f) := by
  induction h with
  | refl => exact ⟨LeC.refl _, fun _ => LeC.refl _⟩
  | step _ ih => exact ⟨ih.1.trans (sem_mono1 A _).1, fun f => (ih.2 f).trans ((sem_mono1 A _).2 f)⟩

open Classical in
noncomputable def lim (g : Nat → Res) : Res := if h : ∃ r n, g n = some r then some h.choose else none

theorem lim_iff {g : Nat → Res} (hg : ∀ n m r, n ≤ m → g n = some r → g m = some r) (r : AV × Store) : lim g = some r ↔ ∃ n, g n = some r := by
  unfold lim
  constructor
  · intro h
    split at h
    · rename_i hh
      obtain ⟨n, hn⟩ := hh.choose_spec
      cases h
      exact ⟨n, hn⟩
    · cases h
  · rintro ⟨n, hn⟩
    have hh : ∃ r n, g n = some r := ⟨r, n, hn⟩
    rw [dif_pos hh]
    obtain ⟨m, hm⟩ := hh.choose_spec
    have h1 := hg n (max n m) _ (Nat.le_max_left ..) hn
    have h2 := hg m (max n m) _ (Nat.le_max_right ..) hm
    rw [h1] at h2; exact h2.symm

noncomputable def CALL (A : AP) : CallO := fun f args σ => lim fun n => (sem A n).1 f args σ
noncomputable def JMP (A : AP) (f : Nat) : CallO := fun l vs σ => lim fun n => (sem A n).2 f l vs σ

theorem CALL_iff (A : AP) (f : Nat) (args : List AV) (σ : Store) (r : AV × Store) : CALL A f args σ = some r ↔ ∃ n, (sem A n).1 f args σ = some r :=
  lim_iff (fun _ _ _ h he => (sem_mono A h).1 _ _ _ _ he) r
theorem JMP_iff (A : AP) (f l : Nat) (vs : List AV) (σ : Store) (r : AV × Store) : JMP A f l vs σ = some r ↔ ∃ n, (sem A n).2 f l vs σ = some r :=
  lim_iff (fun _ _ _ h he => (sem_mono A h).2 f _ _ _ _ he) r

theorem sem_le (A : AP) (n : Nat) : LeC (sem A n).1 (CALL A) ∧ ∀ f, LeC ((sem A n).2 f) (JMP A f) :=
  ⟨fun _ _ _ _ h => (CALL_iff ..).2 ⟨n, h⟩, fun _ _ _ _ _ h => (JMP_iff ..).2 ⟨n, h⟩⟩

theorem callV_lim {A : AP} {f : AV} {args : List AV} {σ : Store} {r : AV × Store} (he : callV (CALL A) f args σ = some r) : ∃ n, callV (sem A n).1 f args σ = some r := by
  simp only [callV] at he ⊢
  split at he
  · rename_i g _ _
    cases hb : Nat.blt g yb with
    | true => rw [hb] at he; exact (CALL_iff ..).1 he
    | false => rw [hb] at he; cases he
  · rename_i i
    cases hb : Nat.blt i yb with
    | true => rw [hb] at he; exact (CALL_iff ..).1 he
    | false => rw [hb] at he; cases he
  · cases he

theorem callR_lim {A : AP} {f : AV} {args : List AV} {σ : Store} {r : AV × Store} (he : callR (CALL A) f args σ = some r) : ∃ n, callR (sem A n).1 f args σ = some r := by
  simp only [callR] at he ⊢
  split at he
  · rename_i g _ _
    cases hb : Nat.blt g yb with
    | true => rw [hb] at he; exact (CALL_iff ..).1 he
    | false => rw [hb] at he; cases he
  · cases he

theorem rngEnd_lim {id e1 e2 : Nat} {k kr k1 k2 : Store → Res} {l lr l1 l2 : Nat → Store → Res} {σ : Store} {r : AV × Store}
    (h0 : ∀ σ r, k σ = some r → ∃ n, l n σ = some r) (hr : ∀ σ r, kr σ = some r → ∃ n, lr n σ = some r) (h1 : ∀ σ r, k1 σ = some r → ∃ n, l1 n σ = some r) (h2 : ∀ σ r, k2 σ = some r → ∃ n, l2 n σ = some r)
    (he : rngEnd id e1 e2 k kr k1 k2 σ = some r) : ∃ n, rngEnd id e1 e2 (l n) (lr n) (l1 n) (l2 n) σ = some r := by
  unfold rngEnd at he ⊢
  split at he
  · rename_i la _
    revert he
    cases la.st == LoopState.busy <;> simp only [cond_true, cond_false] <;> intro he
    · revert he
      cases Nat.beq la.pend 0 <;> simp only [cond_true, cond_false] <;> intro he
      · revert he
        cases Nat.beq la.pend 1 <;> simp only [cond_true, cond_false] <;> intro he
        · revert he
          cases Nat.beq la.pend (e1 + 2) <;> simp only [cond_true, cond_false] <;> intro he
          · revert he
            cases Nat.beq la.pend (e2 + 2) <;> simp only [cond_true, cond_false] <;> intro he
            · cases he
            · exact h2 _ _ he
          · exact h1 _ _ he
        · exact hr _ _ he
      · exact h0 _ _ he
    · cases he
  · cases he

theorem yieldR_lim {A : AP} {id : Nat} {args : List AV} {σ : Store} {r : AV × Store} (he : yieldR (JMP A) id args σ = some r) : ∃ n, yieldR (sem A n).2 id args σ = some r := by
  unfold yieldR at he ⊢
  split at he
  · rename_i la hs
    revert he
    cases (Nat.beq args.length la.np) <;> simp only [cond_true, cond_false] <;> intro he
    · cases he
    · cases hx : JMP A la.fn la.p (args ++ la.caps) σ with
      | none => rw [hx] at he; cases he
      | some q =>
        rw [hx] at he
        obtain ⟨n, hn⟩ := (JMP_iff ..).1 hx
        unfold yMid at he
        split at he <;> first | (cases he; done) | skip
        rename_i vs σ1 heq
        cases heq
        split at he <;> first | (cases he; done) | skip
        rename_i la2 hs2
        revert he
        cases hr : (la2.st == LoopState.ready) <;> simp only [cond_true, cond_false] <;> intro he
        · cases he
        · cases hy : JMP A la.fn (2 * la.p + 1) vs (σ1.set id (.loop { la2 with st := .busy })) with
          | none => rw [hy] at he; cases he
          | some q2 =>
            obtain ⟨m, hm⟩ := (JMP_iff ..).1 hy
            refine ⟨max n m, ?_⟩
            rw [(sem_mono A (Nat.le_max_left n m)).2 _ _ _ _ _ hn]
            simp only [yMid, hs2, hr, cond_true]
            rw [(sem_mono A (Nat.le_max_right n m)).2 _ _ _ _ _ hm, ← hy]
            exact he
  · cases he

theorem doO_lim {A : AP} {env : Env} {σ : Store} {o : LO} {r : AV × Store} (he : doO (CALL A) A.gl env σ o = some r) : ∃ n, doO (sem A n).1 A.gl env σ o = some r := by
  cases o <;> first | exact ⟨0, he⟩ | skip
  exact callV_lim he

theorem stepO_lim {A : AP} {env : Env} {σ : Store} {o : LOp} {r : AV × Store} (he : stepO (CALL A) A.gl env σ o = some r) : ∃ n, stepO (sem A n).1 A.gl env σ o = some r := by
  unfold stepO at he ⊢
  split at he
  · exact doO_lim he
  · rename_i t b _
    cases hx : doO (CALL A) A.gl env σ o.op with
    | none => rw [hx] at he; exact ⟨0, guardO_mono (fun _ h' => by cases h') he⟩
    | some q =>
      obtain ⟨n, hn⟩ := doO_lim hx
      exact ⟨n, by rw [hn, ← hx]; exact he⟩

theorem run_lim {A : AP} {f : Nat} {r : AV × Store} : ∀ (tc : TC) {env : Env} {σ : Store}, run (CALL A) (JMP A f) A.gl tc env σ = some r → ∃ n, run (sem A n).1 ((sem A n).2 f) A.gl tc env σ = some r
  | .op o k, env, σ, he => by
    simp only [run] at he ⊢
    obtain ⟨p, h1, h2⟩ := andR_some he
    obtain ⟨n, hn⟩ := stepO_lim h1
    obtain ⟨m, hm⟩ := run_lim k h2
    refine ⟨max n m, ?_⟩
    rw [stepO_mono (sem_mono A (Nat.le_max_left n m)).1 hn]
    exact run_mono (sem_mono A (Nat.le_max_right n m)).1 ((sem_mono A (Nat.le_max_right n m)).2 f) k hm
  | .again o k, env, σ, he => by
    simp only [run] at he ⊢
    obtain ⟨p, h1, h2, h3⟩ := againO_some he
    obtain ⟨n, hn⟩ := stepO_lim h1
    obtain ⟨m, hm⟩ := run_lim k h3
    refine ⟨max n m, ?_⟩
    rw [stepO_mono (sem_mono A (Nat.le_max_left n m)).1 hn, againO_pos h2]
    exact run_mono (sem_mono A (Nat.le_max_right n m)).1 ((sem_mono A (Nat.le_max_right n m)).2 f) k hm
  | .cond c a b, env, σ, he => by
    simp only [run, iff'] at he ⊢
    split at he
    · exact run_lim a he
    · exact run_lim b he
    · cases he
  | .ret rs, _, _, he => ⟨0, he⟩
  | .jump l live, _, _, he => (JMP_iff ..).1 he
  | .rng fn f' p np lv e1 e2 k kr k1 k2, env, σ, he => by
    simp only [run] at he ⊢
    obtain ⟨q, h1, h2⟩ := andR_some he
    obtain ⟨n, hn⟩ := callR_lim h1
    obtain ⟨m, hm⟩ := rngEnd_lim (l := fun n => run (sem A n).1 ((sem A n).2 f) A.gl k env) (lr := fun n => run (sem A n).1 ((sem A n).2 f) A.gl kr env) (l1 := fun n => run (sem A n).1 ((sem A n).2 f) A.gl k1 env)
      (l2 := fun n => run (sem A n).1 ((sem A n).2 f) A.gl k2 env) (fun σ r => run_lim k) (fun σ r => run_lim kr) (fun σ r => run_lim k1) (fun σ r => run_lim k2) h2
    refine ⟨max n m, ?_⟩
    rw [callR_mono (sem_mono A (Nat.le_max_left n m)).1 hn]
    have hx : ∀ tc env σ r, run (sem A m).1 ((sem A m).2 f) A.gl tc env σ = some r → run (sem A (max n m)).1 ((sem A (max n m)).2 f) A.gl tc env σ = some r := fun tc env σ r h =>
      run_mono (sem_mono A (Nat.le_max_right n m)).1 ((sem_mono A (Nat.le_max_right n m)).2 f) tc h
    exact rngEnd_mono (hx k env) (hx kr env) (hx k1 env) (hx k2 env) hm
  | .rnd n, _, _, he => ⟨0, he⟩
  | .out _, _, _, he => ⟨0, he⟩
  | .bad, _, _, he => by cases he

theorem res_ext {x y : Res} (h : ∀ r, x = some r ↔ y = some r) : x = y := by
  cases x with
  | none => cases y with
    | none => rfl
    | some b => exact ((h b).2 rfl)
  | some a => exact ((h a).1 rfl).symm

theorem CALL_eq {A : AP} {f : Nat} {fc : FC} (hf : A.codes f = some fc) (hy : Nat.blt f yb = true) (args : List AV) (σ : Store) :
    CALL A f args σ = finR fc.pol σ (run (CALL A) (JMP A f) A.gl fc.entry (envArgs (inA fc.pol args)) σ) := by
  refine res_ext fun r => ?_
  rw [CALL_iff]
  constructor
  · rintro ⟨n, hn⟩
    cases n with
    | zero => cases hn
    | succ n =>
      rw [sem] at hn
      simp only [hf, hy, cond_true] at hn
      exact finR_mono (fun r hr => run_mono (sem_le A n).1 ((sem_le A n).2 f) _ hr) hn
  · intro h
    cases hx : run (CALL A) (JMP A f) A.gl fc.entry (envArgs (inA fc.pol args)) σ with
    | none => rw [hx] at h; cases h
    | some q =>
      obtain ⟨n, hn⟩ := run_lim _ hx
      refine ⟨n + 1, ?_⟩
      rw [sem]
      simp only [hf, hy, cond_true]
      rw [hn, ← hx]; exact h

theorem blt_false {a b : Nat} (h : b ≤ a) : Nat.blt a b = false := by
  cases hh : Nat.blt a b with
  | false => rfl
  | true => have := Nat.le_of_ble_eq_true hh; omega
theorem blt_true {a b : Nat} (h : a < b) : Nat.blt a b = true := Nat.ble_eq_true_of_le h

theorem CALL_yld {A : AP} (id : Nat) (hi : id < yb) (args : List AV) (σ : Store) : CALL A (yb + id) args σ = yieldR (JMP A) id args σ := by
  have hb := blt_false (Nat.le_add_right yb id)
  have hb2 : Nat.blt (yb + id) (yb + yb) = true := blt_true (by omega)
  have hs : yb + id - yb = id := by omega
  refine res_ext fun r => ?_
  rw [CALL_iff]
  constructor
  · rintro ⟨n, hn⟩
    cases n with
    | zero => cases hn
    | succ n =>
      rw [sem] at hn
      simp only [hb, hb2, cond_false, cond_true, hs] at hn
      exact yieldR_mono (fun f => (sem_le A n).2 f) hn
  · intro h
    obtain ⟨n, hn⟩ := yieldR_lim h
    exact ⟨n + 1, by rw [sem]; simp only [hb, hb2, cond_false, cond_true, hs]; exact hn⟩

theorem CALL_iter {A : AP} {f : Nat} {fc : FC} (hf : A.codes f = some fc) (hy : Nat.blt f yb = true) (args : List AV) (σ : Store) : CALL A (yb + yb + f) args σ = CALL A f args σ := by
  have hb : Nat.blt (yb + yb + f) yb = false := blt_false (by omega)
  have hb2 : Nat.blt (yb + yb + f) (yb + yb) = false := blt_false (by omega)
  have hs : yb + yb + f - (yb + yb) = f := by omega
  have key : ∀ n, (sem A (n + 1)).1 (yb + yb + f) args σ = (sem A (n + 1)).1 f args σ := fun n => by
    rw [sem]
    simp only [hb, hb2, cond_false, hs, hf, hy, cond_true]
  refine res_ext fun r => ?_
  rw [CALL_iff, CALL_iff]
  constructor
  · rintro ⟨n, hn⟩
    cases n with
    | zero => cases hn
    | succ n => exact ⟨n + 1, by rw [← key]; exact hn⟩
  · rintro ⟨n, hn⟩
    cases n with
    | zero => cases hn
    | succ n => exact ⟨n + 1, by rw [key]; exact hn⟩

theorem CALL_ext {A : AP} {f : Nat} (hf : A.codes f = none) (hy : Nat.blt f yb = true) (args : List AV) (σ : Store) : CALL A f args σ = A.ext f args σ := by
  refine res_ext fun r => ?_
  rw [CALL_iff]
  constructor
  · rintro ⟨n, hn⟩
    cases n with
    | zero => cases hn
    | succ n => rw [sem] at hn; simpa only [hf, hy, cond_true] using hn
  · intro h
    exact ⟨1, by rw [sem]; simpa only [hf, hy, cond_true] using h⟩

theorem JMP_eq {A : AP} {f l : Nat} {fc : FC} {live : List Nat} {tc : TC} (hf : A.codes f = some fc) (hl : fc.labs l = some (live, tc)) (vs : List AV) (σ : Store) :
    JMP A f l vs σ = run (CALL A) (JMP A f) A.gl tc (envOf live vs) σ := by
  refine res_ext fun r => ?_
  rw [JMP_iff]
  constructor
  · rintro ⟨n, hn⟩
    cases n with
    | zero => cases hn
    | succ n =>
      rw [sem] at hn
      simp only [hf, hl] at hn
      exact run_mono (sem_le A n).1 ((sem_le A n).2 f) _ hn
  · intro h
    obtain ⟨n, hn⟩ := run_lim _ h
    exact ⟨n + 1, by rw [sem]; simp only [hf, hl]; exact hn⟩

end Go.Av
