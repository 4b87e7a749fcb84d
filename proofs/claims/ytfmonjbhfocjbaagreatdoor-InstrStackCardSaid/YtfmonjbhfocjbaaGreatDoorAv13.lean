/- One operation of the tail code, against the model. -/
import Derived.Test.YtfmonjbhfocjbaaGreatDoorAv12
import Derived.OwnWalkIn
namespace Go.Av
open Go Go.RowKit

def gdC (ops : Array Oper) : Option (Nat × Bool) → Option (Option (Nat × Bool))
  | none => some none
  | some (j, b) => match (ops[j]?).bind (·.dst) with
    | some t => some (some (t, b))
    | none => none

def dstOk (N : Nat) : Option Tmp → Bool
  | some d => decide (d < N)
  | none => true

def cLOp (P : Program) (N : Nat) (ops : Array Oper) (o : Oper) : Option LOp :=
  match gdC ops o.guard with
  | some g => if dstOk N o.dst = true then some ⟨o.dst, (cOp P o.op).getD .bad, g⟩ else none
  | none => none

section
variable {K : Cfg}

def PostV (K : Cfg) (G : Ghost) (v : AV) (σ' : Store) (val : Value) (w' : World) : Prop := ∃ G', Ext G G' ∧ Rep G' v val ∧ Inv K G' σ' w'

/-- what a call of the model does -/
def CallGood (K : Cfg) (G : Ghost) (W : World) (g : FuncId) (vals : Array Value) (v : AV) (σ' : Store) : Prop :=
  match (callFunc g vals).run K.P W with
  | .ok (.value val) W' => PostV K G v σ' val W'
  | .ok (.enter f a) W' => ∀ n, CallsIn Fence.wide n K.P f a W' fun e W'' => ∃ val, e = .returned val ∧ PostV K G v σ' val W''
  | _ => False

/-- what one round of a loop over a function does -/
def YieldGood (K : Cfg) (G : Ghost) (W : World) (b : Nat) (vals : Array Value) (v : AV) (σ' : Store) : Prop :=
  ∃ f tmps assign body, (Instr.yield b vals).run K.P W = .ok (.round b f tmps assign body) W ∧
    ∀ n, RoundIn Fence.wide n K.P b f tmps assign body W fun e W'' => ∃ val, e = .returned val ∧ PostV K G v σ' val W''

def CallSound (K : Cfg) (C : CallO) : Prop :=
  ∀ g args σ v σ' G W vals, C g args σ = some (v, σ') → Inv K G σ W → RepL G args vals.toList →
    (Nat.blt g yb = true → CallGood K G W g vals v σ') ∧ (∀ id b, g = yb + id → Nat.blt id yb = true → G.obj[id]? = some (.loop b) → YieldGood K G W b vals v σ') ∧
    ∀ f, g = yb + yb + f → Nat.blt f yb = true → CallGood K G W f vals v σ' ∧ (callFunc f vals).run K.P W = .ok (.enter f vals) W

/-- the fence that lets all in, within a round or not -/
def WF (ro : Option Nat) : Fence := { Fence.wide with round := ro }

theorem WF.calls {ro : Option Nat} {n : Nat} {P : Program} {f : FuncId} {args : Array Value} {w : World} {R : Ending → World → Prop} (h : CallsIn Fence.wide n P f args w R) : CallsIn (WF ro) n P f args w R := h
theorem WF.rounds {ro : Option Nat} {n : Nat} {P : Program} {l : Nat} {f : FuncId} {tmps : Array Value} {assign body : Code} {w : World} {R : Ending → World → Prop}
    (h : RoundIn Fence.wide n P l f tmps assign body w R) : RoundIn (WF ro) n P l f tmps assign body w R := h

variable {C : CallO} {G : Ghost} {σ : Store} {w : World} {N : Nat} {env : Env} {a : Act} {n : Nat} {Q : Exit → Act → World → Prop} {Fx : Nat → Prop} {ro : Option Nat}

theorem EnvOK.putO (h : EnvOK G Fx N env a) {d : Option Tmp} (hd : dstOk N d = true) {v : AV} {val : Value} (hr : Rep G v val) : EnvOK G Fx N (updO env d v) (a.put d val) := by
  cases d with
  | none => exact ⟨h.size, h.rep, h.defers⟩
  | some d => exact h.put (by simpa [dstOk] using hd) hr

/-- what follows an operation -/
def Next' (K : Cfg) (G : Ghost) (Fx : Nat → Prop) (N : Nat) (env : Env) (v : AV) (σ' : Store) (a : Act) (next : Act → World → Prop) (d : Option Tmp) : Prop :=
  ∀ G' val w', Ext G G' → Rep G' v val → Inv K G' σ' w' → EnvOK G' Fx N (updO env d v) (a.put d val) → next (a.put d val) w'

theorem do_ok (hC : CallSound K C) (hI : Inv K G σ w) (hE : EnvOK G Fx N env a) {o : Oper} (hd : dstOk N o.dst = true) {v : AV} {σ' : Store}
    (he : doO C K.gl env σ ((cOp K.P o.op).getD .bad) = some (v, σ')) {next : Act → World → Prop} (hn : Next' K G Fx N env v σ' a next o.dst) : o.wpIn (WF ro) n K.P a w next Q := by
  cases hc : cOp K.P o.op with
  | none => rw [hc] at he; cases he
  | some lo =>
  rw [hc] at he
  simp only [Option.getD_some] at he
  refine ⟨fun _ _ => trivial, ?_⟩
  have hnd : ∀ c, o.op ≠ .defer c := fun c e => by rw [e] at hc; simp [cOp] at hc
  rw [Oper.semAt_plain (WF ro) _ _ hnd]
  by_cases hcall : ∃ f args, lo = .call f args
  · obtain ⟨f, args, rfl⟩ := hcall
    simp only [doO] at he
    -- the operation is a call of a value
    obtain ⟨dst, op, ty, pos, after, guard⟩ := o
    simp only at hc hd hn
    cases op <;> try (simp only [cOp] at hc; (repeat' split at hc) <;> (first | (cases hc; done) | (simp at hc; done)))
    all_goals try (simp [cOp] at hc; done)
    case binOp op T x y T2 =>
      exfalso
      simp only [cOp, cBin] at hc
      (repeat' split at hc) <;> (first | (cases hc; done) | (simp at hc; done))
    case unOp op T x =>
      exfalso
      cases op <;> simp [cOp] at hc
    case makeMap T r =>
      exfalso
      cases r <;> simp [cOp] at hc
    case call c =>
      obtain ⟨callee, cargs, argTypes⟩ := c
      cases callee with
      | invoke r m => simp [cOp, cCall] at hc
      | builtin b =>
        exfalso
        cases b <;> simp only [cOp, cCall] at hc <;> (repeat' split at hc) <;> (first | (cases hc; done) | (simp at hc; done))
      | value fo =>
        simp only [cOp, cCall] at hc
        split at hc <;> first | (cases hc; done) | skip
        rename_i f' args' h1 h2
        cases hc
        have hrf := opd_ok hI hE h1
        have hra := opds_ok hI hE h2
        simp only [callV] at he
        split at he
        case h_3 => cases he
        · rename_i g fs cs hf
          rw [hf] at hrf
          cases hb : Nat.blt g yb with
          | false => rw [hb] at he; cases he
          | true =>
            rw [hb] at he
            simp only [cond_true] at he
            obtain ⟨fa, ca, hv, hr1, hr2⟩ := hrf
            have hrun : (execOp a.eval ⟨dst, .call ⟨.value fo, cargs, argTypes⟩, ty, pos, after, guard⟩).run K.P w = (callFunc g ((fa ++ cargs.map a.eval) ++ ca)).run K.P w := by
              simp [execOp, resolve, hv, Deferred.ofValue, invoke]
            rw [hrun]
            have hgood := (hC g _ _ _ _ G w ((fa ++ cargs.map a.eval) ++ ca) he hI (by simpa using RepL.append (RepL.append hr1 hra) hr2)).1 hb
            unfold CallGood at hgood
            revert hgood
            cases (callFunc g (fa ++ Array.map a.eval cargs ++ ca)).run K.P w with
            | halt x w' => intro hgood; exact hgood.elim
            | ok x w' =>
              cases x <;> intro hgood <;> simp only at hgood <;> try (exact hgood.elim)
              · obtain ⟨G', k1, k2, k3⟩ := hgood
                exact hn G' _ _ k1 k2 k3 ((hE.mono k1).putO hd k2)
              · refine ⟨fun h => (by simp [WF, Fence.wide] at h), CallsIn.mono (WF.calls (hgood (n - 1))) fun e w'' hh => ?_⟩
                obtain ⟨val, rfl, G', k1, k2, k3⟩ := hh
                exact hn G' _ _ k1 k2 k3 ((hE.mono k1).putO hd k2)
        · rename_i i hf
          rw [hf] at hrf
          cases hlt : Nat.blt i yb with
          | false => rw [hlt] at he; cases he
          | true =>
          rw [hlt] at he
          simp only [cond_true] at he
          obtain ⟨b, hb, hv⟩ := hrf
          obtain ⟨f, tmps, assign, body, hy, hround⟩ := (hC _ _ _ _ _ G w (cargs.map a.eval) he hI (by simpa using hra)).2.1 i b rfl hlt hb
          have hrun : (execOp a.eval ⟨dst, .call ⟨.value fo, cargs, argTypes⟩, ty, pos, after, guard⟩).run K.P w = (Instr.yield b (cargs.map a.eval)).run K.P w := by
            simp [execOp, resolve, hv, Deferred.ofValue, invoke]
          rw [hrun, hy]
          refine ⟨fun h => (by simp [WF, Fence.wide] at h), RoundIn.mono (WF.rounds (hround (n - 1))) fun e w'' hh => ?_⟩
          obtain ⟨val, rfl, G', k1, k2, k3⟩ := hh
          exact hn G' _ _ k1 k2 k3 ((hE.mono k1).putO hd k2)
  · have he' : eLO K.gl env σ lo = some (v, σ') := by
      cases lo <;> first | exact he | (exact absurd ⟨_, _, rfl⟩ hcall)
    obtain ⟨x, val, w', G', k1, k2, k3, k4, k5⟩ := cop_ok hI hE hc he'
    rw [k1]
    rcases k2 with rfl | ⟨rfl, rfl⟩
    · exact hn G' _ _ k3 k4 k5 ((hE.mono k3).putO hd k4)
    · exact hn G' _ _ k3 k4 k5 ((hE.mono k3).putO hd k4)

/-- one operation with its guard -/
theorem step_ok (hC : CallSound K C) (hI : Inv K G σ w) (hE : EnvOK G Fx N env a) {ops : Array Oper} {o : Oper} {lop : LOp} (hc : cLOp K.P N ops o = some lop) {v : AV} {σ' : Store}
    (he : stepO C K.gl env σ lop = some (v, σ')) {next : Act → World → Prop} (hn : Next' K G Fx N env v σ' a next o.dst) :
    if Region.wanted o (yielded ops a.tmps) then o.wpIn (WF ro) n K.P a w next Q else (∀ f, o.about K.P w a.eval = some f → (WF ro).fn f) ∧ next (a.put o.dst undef) w := by
  unfold cLOp at hc
  split at hc <;> first | (cases hc; done) | skip
  rename_i g h2
  split at hc <;> first | (cases hc; done) | skip
  rename_i hd
  cases hc
  unfold stepO at he
  have unw : (v, σ') = (.tup [], σ) → next (a.put o.dst undef) w := fun h => by
    cases h
    have hr : Rep G (.tup []) undef := ⟨#[], rfl, rfl⟩
    exact hn G _ _ (Ext.refl G) hr hI (hE.putO hd hr)
  cases hg : o.guard with
  | none =>
    rw [hg] at h2
    cases h2
    have : Region.wanted o (yielded ops a.tmps) = true := by simp [Region.wanted, hg]
    rw [if_pos this]
    exact do_ok hC hI hE hd he hn
  | some jb =>
    obtain ⟨j, b⟩ := jb
    rw [hg] at h2
    simp only [gdC] at h2
    split at h2 <;> first | (cases h2; done) | skip
    rename_i t ht
    cases h2
    simp only [guardO] at he
    have hrt := hE.rep t
    have hy : yielded ops a.tmps j = match a.tmps[t]? with | some (.bool b) => some b | _ => none := by
      unfold yielded; rw [ht]; rfl
    have hget : ∀ v, a.tmps.getD t undef = v → (∃ b, v = .bool b) → a.tmps[t]? = some v := fun v hv ⟨b, hb⟩ => by
      rw [Array.getD_eq_getD_getElem?] at hv
      cases hx : a.tmps[t]? with
      | none => rw [hx] at hv; subst hb; cases hv
      | some u => rw [hx] at hv; simp at hv; rw [hv]
    split at he
    · rename_i t' hb
      rw [hb] at hrt
      have hx := hget _ hrt ⟨t', rfl⟩
      rw [hx] at hy
      cases hbt : (t' == b) with
      | true =>
        rw [hbt] at he
        have : t' = b := by simpa using hbt
        subst this
        have hw : Region.wanted o (yielded ops a.tmps) = true := by simp [Region.wanted, hg, hy]
        rw [if_pos hw]
        exact do_ok hC hI hE hd he hn
      | false =>
        rw [hbt] at he
        have hne : t' ≠ b := by simpa using hbt
        have hw : ¬ Region.wanted o (yielded ops a.tmps) = true := by simp [Region.wanted, hg, hy, hne]
        rw [if_neg hw]
        exact ⟨fun _ _ => trivial, unw (by simpa using he.symm)⟩
    · rename_i hb
      rw [hb] at hrt
      obtain ⟨vs, hvs, hl⟩ := hrt
      have hw : ¬ Region.wanted o (yielded ops a.tmps) = true := by
        have hy2 : yielded ops a.tmps j = none := by
          rw [hy]
          cases hx : a.tmps[t]? with
          | none => rfl
          | some u =>
            have : a.tmps.getD t undef = u := by rw [Array.getD_eq_getD_getElem?, hx]; rfl
            rw [this] at hvs; subst hvs; rfl
        simp [Region.wanted, hg, hy2]
      rw [if_neg hw]
      exact ⟨fun _ _ => trivial, unw (by simpa using he.symm)⟩
    · cases he

end
end Go.Av
