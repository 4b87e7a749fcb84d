/- A region whose order is not fixed: one order is walked, and all others come to the same. -/
import Derived.Test.YtfmonjbhfocjbaaGreatDoorAv13
namespace Go.Av
open Go Go.RowKit

def opdR : Opd → List Nat
  | .t n => [n]
  | _ => []
def opdRO : Option Opd → List Nat
  | some x => opdR x
  | none => []

def readsLO : LO → List Nat
  | .mv x => opdR x
  | .pick c a b => opdR c ++ (opdR a ++ opdR b)
  | .alloc _ _ => []
  | .box _ x => opdR x
  | .build _ ps => ps.flatMap fun p => opdR p.2.2
  | .bsl _ _ _ ps => ps.flatMap fun p => opdR p.2
  | .load _ _ a => opdR a
  | .store _ a x => opdR a ++ opdR x
  | .chk _ _ a d => opdR a ++ opdR d
  | .nilck x => opdR x
  | .ibin _ x y => opdR x ++ opdR y
  | .sbin _ x y => opdR x ++ opdR y
  | .eqb _ x y => opdR x ++ opdR y
  | .eqs _ _ x y => opdR x ++ opdR y
  | .eqp _ x y => opdR x ++ opdR y
  | .eqnil _ _ x => opdR x
  | .not x => opdR x
  | .neg x => opdR x
  | .conv _ x => opdR x
  | .cstr x => opdR x
  | .b2s x => opdR x
  | .mkfn _ fs cs => (fs.flatMap opdR) ++ (cs.flatMap opdR)
  | .mkmap => []
  | .mset _ m k v => opdR m ++ (opdR k ++ opdR v)
  | .mget _ _ _ m k => opdR m ++ opdR k
  | .mdel _ m k => opdR m ++ opdR k
  | .mlen m => opdR m
  | .ment _ _ m k => opdR m ++ opdR k
  | .mest m s v => opdR m ++ (opdR s ++ opdR v)
  | .mksl _ _ _ _ l c => opdR l ++ opdR c
  | .sls x lo hi => opdR x ++ (opdRO lo ++ opdRO hi)
  | .sll _ x lo hi mx => opdR x ++ (opdRO lo ++ (opdRO hi ++ opdRO mx))
  | .sla _ _ x lo hi => opdR x ++ (opdRO lo ++ opdRO hi)
  | .foff _ x => opdR x
  | .fld _ _ _ x => opdR x
  | .idx _ x i => opdR x ++ opdR i
  | .idxa _ _ x i => opdR x ++ opdR i
  | .idxv _ _ _ x i => opdR x ++ opdR i
  | .idxs x i => opdR x ++ opdR i
  | .lens x => opdR x
  | .lenl x => opdR x
  | .mm _ x y => opdR x ++ opdR y
  | .app _ _ _ x y => opdR x ++ opdR y
  | .extr _ x => opdR x
  | .mkif _ x => opdR x
  | .call f xs => opdR f ++ xs.flatMap opdR
  | .bad => []

def reads (o : LOp) : List Nat :=
  match o.gd with
  | some (t, _) => t :: readsLO o.op
  | none => readsLO o.op

inductive Kd where
  | pure
  | load
  | eff
  deriving DecidableEq

def kindLO : LO → Kd
  | .load _ _ _ => .load
  | .mget _ _ _ _ _ => .load
  | .mlen _ => .load
  | .alloc _ _ => .eff
  | .box _ _ => .eff
  | .store _ _ _ => .eff
  | .mkmap => .eff
  | .mset _ _ _ _ => .eff
  | .mdel _ _ _ => .eff
  | .ment _ _ _ _ => .eff
  | .mest _ _ _ => .eff
  | .mksl _ _ _ _ _ _ => .eff
  | .app _ _ _ _ _ => .eff
  | .call _ _ => .eff
  | _ => .pure

section
variable {C : CallO} {gl : Nat → AV} {env env' : Env} {σ : Store}

theorem ev_congr {x : Opd} (h : ∀ t ∈ opdR x, env t = env' t) : ev gl env x = ev gl env' x := by
  cases x with
  | t n => exact h n (List.mem_singleton.2 rfl)
  | c v => rfl
  | g n => rfl

theorem evO_congr {x : Option Opd} (h : ∀ t ∈ opdRO x, env t = env' t) : evO gl env x = evO gl env' x := by
  cases x with
  | none => rfl
  | some x => simp only [evO]; rw [ev_congr (x := x) h]

theorem map_congr {xs : List Opd} (h : ∀ t ∈ xs.flatMap opdR, env t = env' t) : xs.map (ev gl env) = xs.map (ev gl env') :=
  List.map_congr_left fun x hx => ev_congr fun t ht => h t (List.mem_flatMap.2 ⟨x, hx, ht⟩)

theorem doO_congr {lo : LO} (h : ∀ t ∈ readsLO lo, env t = env' t) : doO C gl env σ lo = doO C gl env' σ lo := by
  have h1 : ∀ x : Opd, (∀ t ∈ opdR x, t ∈ readsLO lo) → ev gl env x = ev gl env' x := fun x hx => ev_congr fun t ht => h t (hx t ht)
  have h2 : ∀ x : Option Opd, (∀ t ∈ opdRO x, t ∈ readsLO lo) → evO gl env x = evO gl env' x := fun x hx => evO_congr fun t ht => h t (hx t ht)
  cases lo
  case build z ps =>
    simp only [doO, eLO]
    rw [show (ps.map fun p => (p.1, p.2.1, ev gl env p.2.2)) = ps.map fun p => (p.1, p.2.1, ev gl env' p.2.2) from
      List.map_congr_left fun p hp => by rw [h1 p.2.2 fun t ht => List.mem_flatMap.2 ⟨p, hp, ht⟩]]
  case bsl es z n ps =>
    simp only [doO, eLO]
    rw [show (ps.map fun p => (p.1, ev gl env p.2)) = ps.map fun p => (p.1, ev gl env' p.2) from
      List.map_congr_left fun p hp => by rw [h1 p.2 fun t ht => List.mem_flatMap.2 ⟨p, hp, ht⟩]]
  case mkfn f fs cs =>
    simp only [doO, eLO]
    rw [map_congr (xs := fs) fun t ht => h t (List.mem_append_left _ ht), map_congr (xs := cs) fun t ht => h t (List.mem_append_right _ ht)]
  case call f xs =>
    simp only [doO]
    rw [h1 f fun t ht => List.mem_append_left _ ht, map_congr (xs := xs) fun t ht => h t (List.mem_append_right _ ht)]
  case mset kt m k v => simp only [doO, eLO]; rw [h1 m (by simp +contextual [readsLO]), h1 k (by simp +contextual [readsLO]), h1 v (by simp +contextual [readsLO])]
  case mest m k v => simp only [doO, eLO]; rw [h1 m (by simp +contextual [readsLO]), h1 k (by simp +contextual [readsLO]), h1 v (by simp +contextual [readsLO])]
  case pick c a b => simp only [doO, eLO]; rw [h1 c (by simp +contextual [readsLO]), h1 a (by simp +contextual [readsLO]), h1 b (by simp +contextual [readsLO])]
  case sls x lo hi => simp only [doO, eLO]; rw [h1 x (by simp +contextual [readsLO]), h2 lo (by simp +contextual [readsLO]), h2 hi (by simp +contextual [readsLO])]
  case sll es x lo hi mx => simp only [doO, eLO]; rw [h1 x (by simp +contextual [readsLO]), h2 lo (by simp +contextual [readsLO]), h2 hi (by simp +contextual [readsLO]), h2 mx (by simp +contextual [readsLO])]
  case sla n es x lo hi => simp only [doO, eLO]; rw [h1 x (by simp +contextual [readsLO]), h2 lo (by simp +contextual [readsLO]), h2 hi (by simp +contextual [readsLO])]
  all_goals first
    | rfl
    | (rename_i x; simp only [doO, eLO]; rw [h1 x (by simp +contextual [readsLO])]; done)
    | (rename_i x y; simp only [doO, eLO]; rw [h1 x (by simp +contextual [readsLO]), h1 y (by simp +contextual [readsLO])]; done)

theorem doO_pure {lo : LO} (hk : kindLO lo = .pure) {r : AV × Store} (he : doO C gl env σ lo = some r) : r.2 = σ ∧ ∀ σ2, doO C gl env σ2 lo = some (r.1, σ2) := by
  have key : ∀ {o : Option AV}, ret σ o = some r → r.2 = σ ∧ ∀ σ2, ret σ2 o = some (r.1, σ2) := fun {o} h => by
    cases o with
    | none => cases h
    | some v => cases h; exact ⟨rfl, fun _ => rfl⟩
  cases lo <;> first | (cases hk; done) | (exact key he) | (cases he; done) | (cases he; exact ⟨rfl, fun _ => rfl⟩) | skip
  rename_i nk neg x
  simp only [doO, eLO] at he ⊢
  split at he
  · rename_i hx
    simp only [if_pos hx]
    exact key he
  · cases he

theorem doO_load {lo : LO} (hk : kindLO lo = .load) {r : AV × Store} (he : doO C gl env σ lo = some r) : r.2 = σ := by
  have key : ∀ {o : Option AV}, ret σ o = some r → r.2 = σ := fun {o} h => by
    cases o with
    | none => cases h
    | some v => cases h; rfl
  cases lo <;> first | (cases hk; done) | (exact key he) | (cases he; done)

theorem stepO_congr {lop : LOp} (h : ∀ t ∈ reads lop, env t = env' t) : stepO C gl env σ lop = stepO C gl env' σ lop := by
  unfold reads at h
  unfold stepO
  split
  · rename_i hg; rw [hg] at h; exact doO_congr h
  · rename_i t b hg
    rw [hg] at h
    rw [h t (List.mem_cons_self ..), doO_congr (lo := lop.op) fun t ht => h t (List.mem_cons_of_mem _ ht)]

theorem guardO_cases {c : AV} {b : Bool} {σ : Store} {x : Res} {r : AV × Store} (he : guardO c b σ x = some r) :
    (x = some r ∧ ∀ σ2 y, guardO c b σ2 y = y) ∨ (r = (.tup [], σ) ∧ ∀ σ2 y, guardO c b σ2 y = some (.tup [], σ2)) := by
  unfold guardO at he ⊢
  split at he
  · rename_i t
    cases ht : (t == b) with
    | true => rw [ht] at he; exact .inl ⟨he, fun _ _ => by simp⟩
    | false => rw [ht] at he; cases he; exact .inr ⟨rfl, fun _ _ => by simp⟩
  · cases he; exact .inr ⟨rfl, fun _ _ => rfl⟩
  · cases he

theorem stepO_pure {lop : LOp} (hk : kindLO lop.op = .pure) {r : AV × Store} (he : stepO C gl env σ lop = some r) : r.2 = σ ∧ ∀ σ2, stepO C gl env σ2 lop = some (r.1, σ2) := by
  unfold stepO at he ⊢
  split at he
  · exact doO_pure hk he
  · rcases guardO_cases he with ⟨h1, h2⟩ | ⟨h1, h2⟩
    · obtain ⟨k1, k2⟩ := doO_pure hk h1
      exact ⟨k1, fun σ2 => by rw [h2]; exact k2 σ2⟩
    · subst h1; exact ⟨rfl, fun σ2 => by rw [h2]⟩

theorem stepO_load {lop : LOp} (hk : kindLO lop.op = .load) {r : AV × Store} (he : stepO C gl env σ lop = some r) : r.2 = σ := by
  unfold stepO at he
  split at he
  · exact doO_load hk he
  · rcases guardO_cases he with ⟨h1, _⟩ | ⟨h1, _⟩
    · exact doO_load hk h1
    · subst h1; rfl
end

/-! ### one order -/
def ancB (ms : List Nat) (i j : Nat) : Bool := (ms.getD i 0).testBit j

def drawSteps (L : List LOp) (ms : List Nat) : List Nat → List Nat → List (Bool × Nat)
  | [], _ => []
  | i :: r, lds => match L[i]? with
    | some lop => match kindLO lop.op with
      | .eff => (false, i) :: ((lds.filter fun l => !ancB ms i l).map fun l => (true, l)) ++ drawSteps L ms r lds
      | .load => (false, i) :: drawSteps L ms r (i :: lds)
      | .pure => (false, i) :: drawSteps L ms r lds
    | none => []

def stepsTC (L : List LOp) : List (Bool × Nat) → TC → TC
  | [], k => k
  | (false, i) :: r, k => match L[i]? with
    | some lop => .op lop (stepsTC L r k)
    | none => .bad
  | (true, i) :: r, k => match L[i]? with
    | some lop => .again lop (stepsTC L r k)
    | none => .bad

/-- the order is one that the check below lets pass -/
def okOrd (L : List LOp) (ms : List Nat) : List Nat → List Nat → List Nat → Bool
  | [], _, _ => true
  | i :: r, pre, effs => match L[i]? with
    | none => false
    | some lop =>
      (match lop.dst with
        | none => true
        | some d => (i :: pre).all (fun j => match L[j]? with
          | some lj => !(reads lj).contains d && (j == i || !(lj.dst == some d))
          | none => false)) &&
      !pre.contains i &&
      (match kindLO lop.op with
        | .eff => effs.all (ancB ms i) && okOrd L ms r (i :: pre) (effs ++ [i])
        | .load => effs.all (ancB ms i) && okOrd L ms r (i :: pre) effs
        | .pure => okOrd L ms r (i :: pre) effs)

structure Fact (C : CallO) (gl : Nat → AV) (ms : List Nat) (env : Env) (ss : Nat → Store) (effs : List Nat) (i : Nat) (lop : LOp) : Prop where
  pure : kindLO lop.op = .pure → ∃ v, (∀ d, lop.dst = some d → env d = v) ∧ ∀ σ, stepO C gl env σ lop = some (v, σ)
  load : kindLO lop.op = .load → ∀ q, q ≤ effs.length → (∀ (p e : Nat), effs[p]? = some e → p < q → ancB ms e i = false) →
    (∀ (p e : Nat), effs[p]? = some e → ancB ms i e = true → p < q) → ∃ v, (∀ d, lop.dst = some d → env d = v) ∧ stepO C gl env (ss q) lop = some (v, ss q)
  eff : kindLO lop.op = .eff → ∃ v p, (∀ d, lop.dst = some d → env d = v) ∧ effs[p]? = some i ∧ stepO C gl env (ss p) lop = some (v, ss (p + 1))

theorem Fact.env {C : CallO} {gl : Nat → AV} {ms : List Nat} {env env' : Env} {ss : Nat → Store} {effs : List Nat} {i : Nat} {lop : LOp} (h : Fact C gl ms env ss effs i lop)
    (hr : ∀ t ∈ reads lop, env' t = env t) (hd : ∀ d, lop.dst = some d → env' d = env d) : Fact C gl ms env' ss effs i lop where
  pure := fun hk => by
    obtain ⟨v, h1, h2⟩ := h.pure hk
    exact ⟨v, fun d hd' => by rw [hd d hd']; exact h1 d hd', fun σ => by rw [stepO_congr hr]; exact h2 σ⟩
  load := fun hk => by
    intro q a b c
    obtain ⟨v, h1, h2⟩ := h.load hk q a b c
    exact ⟨v, fun d hd' => by rw [hd d hd']; exact h1 d hd', by rw [stepO_congr hr]; exact h2⟩
  eff := fun hk => by
    obtain ⟨v, p, h1, h2, h3⟩ := h.eff hk
    exact ⟨v, p, fun d hd' => by rw [hd d hd']; exact h1 d hd', h2, by rw [stepO_congr hr]; exact h3⟩

def effsOf (L : List LOp) (order : List Nat) : List Nat :=
  order.filter fun i => match L[i]? with
    | some lop => kindLO lop.op == .eff
    | none => false

section
variable {C J : CallO} {gl : Nat → AV} {L : List LOp} {ms : List Nat} {k : TC} {r : AV × Store}

theorem again_run : ∀ {ls : List Nat} {rest : List (Bool × Nat)} {env : Env} {σ : Store}, run C J gl (stepsTC L ((ls.map fun l => (true, l)) ++ rest) k) env σ = some r →
    (∀ l ∈ ls, ∀ lop, L[l]? = some lop → ∃ p, stepO C gl env σ lop = some p ∧ ∀ d, lop.dst = some d → env d = p.1) ∧ run C J gl (stepsTC L rest k) env σ = some r
  | [], _, _, _, h => ⟨fun l hl => by simp at hl, h⟩
  | l :: ls, rest, env, σ, h => by
    simp only [List.map_cons, List.cons_append, stepsTC] at h
    split at h
    · rename_i lop hl
      simp only [run] at h
      obtain ⟨p, h1, h2, h3⟩ := againO_some h
      obtain ⟨k1, k2⟩ := again_run h3
      refine ⟨fun l' hl' lop' hlop' => ?_, k2⟩
      rcases List.mem_cons.1 hl' with rfl | hl'
      · rw [hl] at hlop'; cases hlop'
        exact ⟨p, h1, fun d hd => by rw [hd] at h2; exact h2.symm⟩
      · exact k1 l' hl' lop' hlop'
    · simp only [run] at h; cases h

theorem mem_move {i j : Nat} {pre order : List Nat} (h : j ∈ pre ∨ j ∈ i :: order) : j ∈ i :: pre ∨ j ∈ order := by
  rcases h with h | h
  · exact .inl (List.mem_cons_of_mem _ h)
  · rcases List.mem_cons.1 h with rfl | h
    · exact .inl (List.mem_cons_self ..)
    · exact .inr h

/-- what one order says -/
theorem trace : ∀ {order pre effs lds : List Nat} {env : Env} {ss : Nat → Store}, okOrd L ms order pre effs = true →
    (∀ i ∈ pre, ∃ lop, L[i]? = some lop ∧ Fact C gl ms env ss effs i lop) → (∀ i ∈ pre, ∀ lop, L[i]? = some lop → kindLO lop.op = .load → i ∈ lds) →
    run C J gl (stepsTC L (drawSteps L ms order lds) k) env (ss effs.length) = some r →
    ∃ (env' : Env) (ss' : Nat → Store), (∀ i, i ∈ pre ∨ i ∈ order → ∃ lop, L[i]? = some lop ∧ Fact C gl ms env' ss' (effs ++ effsOf L order) i lop) ∧
      run C J gl k env' (ss' (effs ++ effsOf L order).length) = some r ∧ (∀ q, q ≤ effs.length → ss' q = ss q) ∧
      (∀ t, (∀ i ∈ order, ∀ lop, L[i]? = some lop → lop.dst ≠ some t) → env' t = env t) := by
  intro order
  induction order with
  | nil =>
    intro pre effs lds env ss _ hpre _ hrun
    refine ⟨env, ss, fun i hi => ?_, by simpa [effsOf, drawSteps, stepsTC] using hrun, fun _ _ => rfl, fun _ _ => rfl⟩
    simpa [effsOf] using hpre i (by simpa using hi)
  | cons i order ih =>
    intro pre effs lds env ss hok hpre hlds hrun
    simp only [okOrd] at hok
    split at hok
    · cases hok
    rename_i lop hlop
    simp only [Bool.and_eq_true] at hok
    obtain ⟨⟨hdst, hnew⟩, hkind⟩ := hok
    have hnew : i ∉ pre := by simpa using hnew
    have hstep : ∃ (v : AV) (σ' : Store) (rest : List (Bool × Nat)), drawSteps L ms (i :: order) lds = (false, i) :: rest ∧ stepO C gl env (ss effs.length) lop = some (v, σ') ∧
        run C J gl (stepsTC L rest k) (updO env lop.dst v) σ' = some r := by
      have : ∃ rest, drawSteps L ms (i :: order) lds = (false, i) :: rest := by
        simp only [drawSteps, hlop]; cases kindLO lop.op <;> exact ⟨_, rfl⟩
      obtain ⟨rest, hrest⟩ := this
      rw [hrest] at hrun
      simp only [stepsTC, hlop, run] at hrun
      obtain ⟨p, h1, h2⟩ := andR_some hrun
      exact ⟨p.1, p.2, rest, hrest, h1, h2⟩
    obtain ⟨v, σ', rest, hrest, hs, hrun'⟩ := hstep
    -- the new environment
    have hdst' : ∀ d, lop.dst = some d → ∀ j, j ∈ i :: pre → ∀ lj, L[j]? = some lj → d ∉ reads lj ∧ (j = i ∨ lj.dst ≠ some d) := fun d hd j hj lj hlj => by
      rw [hd] at hdst
      have := List.all_eq_true.1 hdst j hj
      simp only [hlj, Bool.and_eq_true, Bool.not_eq_true', Bool.or_eq_true, beq_iff_eq] at this
      refine ⟨fun hm => ?_, this.2.imp id fun h => by simpa using h⟩
      have h1 := this.1
      rw [List.contains_iff_mem.2 hm] at h1; cases h1
    have henv : ∀ j, j ∈ i :: pre → ∀ lj, L[j]? = some lj → ∀ t ∈ reads lj, updO env lop.dst v t = env t := fun j hj lj hlj t ht => by
      cases hd : lop.dst with
      | none => rfl
      | some d => exact upd_ne env v fun e => (hdst' d hd j hj lj hlj).1 (e ▸ ht)
    have hown : ∀ d, lop.dst = some d → updO env lop.dst v d = v := fun d hd => by rw [hd]; exact upd_same ..
    have hold : ∀ j, j ∈ pre → ∀ lj, L[j]? = some lj → ∀ d, lj.dst = some d → updO env lop.dst v d = env d := fun j hj lj hlj d hd => by
      cases hd2 : lop.dst with
      | none => rfl
      | some d2 =>
        refine upd_ne env v fun e => ?_
        subst e
        rcases (hdst' d hd2 j (List.mem_cons_of_mem _ hj) lj hlj).2 with rfl | h
        · exact hnew hj
        · exact h hd
    have hlast : ∀ {env' : Env}, (∀ t, (∀ i ∈ order, ∀ lop, L[i]? = some lop → lop.dst ≠ some t) → env' t = updO env lop.dst v t) →
        ∀ t, (∀ j ∈ i :: order, ∀ lop, L[j]? = some lop → lop.dst ≠ some t) → env' t = env t := fun h t ht => by
      rw [h t fun j hj => ht j (List.mem_cons_of_mem _ hj)]
      have hne := ht i (List.mem_cons_self ..) lop hlop
      cases hd : lop.dst with
      | none => rfl
      | some d => exact upd_ne env v fun e => hne (by rw [hd, e])
    have hstep' : stepO C gl (updO env lop.dst v) (ss effs.length) lop = some (v, σ') := by
      rw [stepO_congr (henv i (List.mem_cons_self ..) lop hlop)]; exact hs
    cases hk : kindLO lop.op with
    | pure =>
      simp only [hk] at hkind
      obtain ⟨h1, h2⟩ := stepO_pure hk hstep'
      simp only at h1; subst h1
      simp only [drawSteps, hlop, hk, List.cons.injEq, true_and] at hrest
      subst hrest
      have hE : effsOf L (i :: order) = effsOf L order := by simp [effsOf, hlop, hk]
      obtain ⟨env', ss', k1, k2, k3, k4⟩ := ih (pre := i :: pre) (env := updO env lop.dst v) (ss := ss) (lds := lds) hkind (fun j hj => by
        rcases List.mem_cons.1 hj with rfl | hj
        · exact ⟨lop, hlop, fun _ => ⟨v, hown, h2⟩, fun h => (by rw [hk] at h; cases h), fun h => (by rw [hk] at h; cases h)⟩
        · obtain ⟨lj, hlj, hf⟩ := hpre j hj
          exact ⟨lj, hlj, hf.env (henv j (List.mem_cons_of_mem _ hj) lj hlj) (hold j hj lj hlj)⟩) (fun j hj lj hlj hkj => by
        rcases List.mem_cons.1 hj with rfl | hj
        · rw [hlop] at hlj; cases hlj; rw [hk] at hkj; cases hkj
        · exact hlds j hj lj hlj hkj) hrun'
      rw [hE]
      exact ⟨env', ss', fun j hj => k1 j (mem_move hj), k2, k3, hlast k4⟩
    | load =>
      simp only [hk, Bool.and_eq_true] at hkind
      obtain ⟨hanc, hkind⟩ := hkind
      have h1 := stepO_load hk hstep'
      simp only at h1; subst h1
      simp only [drawSteps, hlop, hk, List.cons.injEq, true_and] at hrest
      subst hrest
      have hE : effsOf L (i :: order) = effsOf L order := by simp [effsOf, hlop, hk]
      obtain ⟨env', ss', k1, k2, k3, k4⟩ := ih (pre := i :: pre) (env := updO env lop.dst v) (ss := ss) (lds := i :: lds) hkind (fun j hj => by
        rcases List.mem_cons.1 hj with rfl | hj
        · refine ⟨lop, hlop, fun h => by (rw [hk] at h; cases h), fun _ q hq _ h2 => ?_, fun h => by (rw [hk] at h; cases h)⟩
          have hqe : q = effs.length := by
            rcases Nat.lt_or_ge q effs.length with hlt | hge
            · have := h2 q effs[q] (List.getElem?_eq_getElem hlt) (List.all_eq_true.1 hanc _ (List.getElem_mem hlt))
              omega
            · omega
          subst hqe
          exact ⟨v, hown, hstep'⟩
        · obtain ⟨lj, hlj, hf⟩ := hpre j hj
          exact ⟨lj, hlj, hf.env (henv j (List.mem_cons_of_mem _ hj) lj hlj) (hold j hj lj hlj)⟩) (fun j hj lj hlj hkj => by
        rcases List.mem_cons.1 hj with rfl | hj
        · exact List.mem_cons_self ..
        · exact List.mem_cons_of_mem _ (hlds j hj lj hlj hkj)) hrun'
      rw [hE]
      exact ⟨env', ss', fun j hj => k1 j (mem_move hj), k2, k3, hlast k4⟩
    | eff =>
      simp only [hk, Bool.and_eq_true] at hkind
      obtain ⟨hanc, hkind⟩ := hkind
      simp only [drawSteps, hlop, hk, List.cons_append, List.cons.injEq, true_and] at hrest
      subst hrest
      obtain ⟨hag, hrun2⟩ := again_run hrun'
      have hE : effsOf L (i :: order) = i :: effsOf L order := by simp [effsOf, hlop, hk]
      let ss1 : Nat → Store := fun q => if q ≤ effs.length then ss q else σ'
      have hss : ∀ q, q ≤ effs.length → ss1 q = ss q := fun q hq => if_pos hq
      have hss1 : ss1 (effs.length + 1) = σ' := if_neg (by omega)
      have hlen : (effs ++ [i]).length = effs.length + 1 := by simp
      obtain ⟨env', ss', k1, k2, k3, k4⟩ := ih (pre := i :: pre) (effs := effs ++ [i]) (env := updO env lop.dst v) (ss := ss1) (lds := lds) hkind (fun j hj => by
        rcases List.mem_cons.1 hj with rfl | hj
        · refine ⟨lop, hlop, fun h => by (rw [hk] at h; cases h), fun h => by (rw [hk] at h; cases h), fun _ => ⟨v, effs.length, hown, by simp, ?_⟩⟩
          rw [hss _ (Nat.le_refl _), hss1]; exact hstep'
        · obtain ⟨lj, hlj, hf⟩ := hpre j hj
          have hf2 := hf.env (henv j (List.mem_cons_of_mem _ hj) lj hlj) (hold j hj lj hlj)
          refine ⟨lj, hlj, hf2.pure, fun hkj q hq h1 h2 => ?_, fun hkj => ?_⟩
          · rcases Nat.lt_or_ge effs.length q with hlt | hge
            · have hqe : q = effs.length + 1 := by rw [hlen] at hq; omega
              subst hqe
              have hna : ancB ms i j = false := h1 effs.length i (by simp) (by omega)
              obtain ⟨p, p1, p2⟩ := hag j (List.mem_filter.2 ⟨hlds j hj lj hlj hkj, by simp [hna]⟩) lj hlj
              have p3 := stepO_load hkj p1
              rw [hss1]
              exact ⟨p.1, p2, by rw [p1, ← p3]⟩
            · rw [hss q hge]
              refine hf2.load hkj q hge (fun p e hpe hpq => h1 p e ?_ hpq) (fun p e hpe ha => h2 p e ?_ ha)
              all_goals
                rw [List.getElem?_append_left (List.getElem?_eq_some_iff.1 hpe).1]; exact hpe
          · obtain ⟨v', p, p1, p2, p3⟩ := hf2.eff hkj
            have hp := (List.getElem?_eq_some_iff.1 p2).1
            exact ⟨v', p, p1, by rw [List.getElem?_append_left hp]; exact p2, by rw [hss p (by omega), hss (p + 1) (by omega)]; exact p3⟩)
        (fun j hj lj hlj hkj => by
          rcases List.mem_cons.1 hj with rfl | hj
          · rw [hlop] at hlj; cases hlj; rw [hk] at hkj; cases hkj
          · exact hlds j hj lj hlj hkj) (by rw [hlen, hss1]; exact hrun2)
      rw [hE]
      have hcat : effs ++ i :: effsOf L order = effs ++ [i] ++ effsOf L order := by simp
      rw [hcat]
      exact ⟨env', ss', fun j hj => k1 j (mem_move hj), k2, fun q hq => by rw [k3 q (by rw [hlen]; omega), hss q hq], hlast k4⟩

end
end Go.Av
