/- Code of the model as tail code, and that what the tail code comes to, the code comes to. -/
import Derived.Test.YtfmonjbhfocjbaaGreatDoorAv15
import Derived.RangeFuncRecord
import Derived.RangeFuncIn
namespace Go.Av
open Go Go.RowKit

def compL (P : Program) (N : Nat) (ops : Array Oper) : List Oper → Option (List LOp)
  | [] => some []
  | o :: r => match cLOp P N ops o, compL P N ops r with
    | some l, some ls => some (l :: ls)
    | _, _ => none

def seqTC : List LOp → TC → TC
  | [], k => k
  | l :: r, k => .op l (seqTC r k)

def mkMs (ops : Array Oper) : Nat → List Nat → List Nat
  | 0, ms => ms
  | n + 1, ms => mkMs ops n (ms ++ [(directs ops ms.length).foldl (fun acc d => (acc ||| (1 <<< d)) ||| ms.getD d 0) 0])

def readyO (ms : List Nat) (done i : Nat) : Bool := (ms.getD i 0) &&& done == ms.getD i 0

def isEffL (L : List LOp) (i : Nat) : Bool :=
  match L[i]? with
  | some l => kindLO l.op == .eff
  | none => false

/-- an order that leaves the effects for as late as it can -/
def mkOrd (L : List LOp) (ms : List Nat) : Nat → Nat → List Nat → List Nat
  | 0, _, _ => []
  | n + 1, done, cands =>
    match cands.find? (fun i => !isEffL L i && readyO ms done i) with
    | some i => i :: mkOrd L ms n (done ||| (1 <<< i)) (cands.erase i)
    | none => match cands.find? (fun i => readyO ms done i) with
      | some i => i :: mkOrd L ms n (done ||| (1 <<< i)) (cands.erase i)
      | none => []

/-- how many operations stand ahead of those that are one behind the other -/
def cutOrd (ms ord : List Nat) (cre : List Nat) : Nat → Nat → Nat
  | 0, k => k
  | n + 1, k => cond (okTail ms (cre ++ ord.take k) (ord.drop k)) k (cutOrd ms ord cre n (k + 1))

def isCreL (L : List LOp) (i : Nat) : Bool :=
  match L[i]? with
  | some l => (creO l).isSome
  | none => false

structure Plan where
  cre : List Nat
  order : List Nat
  tail : List Nat

def mkPlan (L : List LOp) (ms : List Nat) (m : Nat) : Plan :=
  let cre := (List.range m).filter (isCreL L)
  let ord := mkOrd L ms m (cre.foldl (fun acc d => acc ||| (1 <<< d)) 0) ((List.range m).filter fun i => !isCreL L i)
  let k := cutOrd ms ord cre m 0
  ⟨cre, ord.take k, ord.drop k⟩

def okPlan (ops : Array Oper) (L : List LOp) (ms : List Nat) (q : Plan) (cs : List (Nat × Nat × List AV)) : Bool :=
  okMs ops ms && (okDst L q.order cs && (okReads L ms (q.cre ++ q.order) q.order && (okOrd L ms q.order [] [] && (okTail ms (q.cre ++ q.order) q.tail && okAll ops.size (q.cre ++ (q.order ++ q.tail))))))

def planTC (L : List LOp) (ms : List Nat) (q : Plan) (κ : TC) : TC :=
  stepsTC L (q.cre.map fun i => (false, i)) (stepsTC L (drawSteps L ms q.order []) (stepsTC L (q.tail.map fun i => (false, i)) κ))

def drawTC (ops : Array Oper) (L : List LOp) (ms : List Nat) (q : Plan) (κ : TC) : TC :=
  match creL L q.cre with
  | some cs => cond (okPlan ops L ms q cs) (planTC L ms q κ) .bad
  | none => .bad

def regTC (P : Program) (N : Nat) (ops : Array Oper) (draw : Bool) (κ : TC) : TC :=
  match compL P N ops ops.toList with
  | none => .bad
  | some L => cond draw
    (let ms := mkMs ops ops.size []
     drawTC ops L ms (mkPlan L ms ops.size) κ)
    (seqTC L κ)

structure CC where
  P : Program
  N : Nat
  f : Nat
  rnd : Bool
  rs : List LR
  lab : Nat → Bool
  live : Nat → List Nat

def retTC (X : CC) : TC := cond X.rnd (.rnd 1) (.ret X.rs)

def lookK (rnd : Bool) (κe : List (Nat × TC)) (id : Nat) : TC :=
  match κe with
  | [] => cond rnd (.rnd (id + 2)) .bad
  | (i, t) :: r => cond (Nat.beq i id) t (lookK rnd r id)

/-- the exits that a round may be left by -/
def exitsOf : Code → List Nat
  | .seq a b => exitsOf a ++ exitsOf b
  | .cond _ a b => exitsOf a ++ exitsOf b
  | .rangeFunc _ _ a b => exitsOf a ++ exitsOf b
  | .block id b => (exitsOf b).filter fun x => !Nat.beq x id
  | .loop b => exitsOf b
  | .scope b => exitsOf b
  | .exit id => [id]
  | _ => []

def exN (b : Code) (i : Nat) : Nat := (exitsOf b).eraseDups.getD i 0

def okRng (X : CC) (p : Nat) (ps : Array Tmp) : Bool := decide ((X.live p).take ps.size = ps.toList) && (decide ps.toList.Nodup && ps.toList.all fun t => decide (t < X.N))

def comp (X : CC) : Nat → Code → TC → List (Nat × TC) → TC
  | _, .skip, κ, _ => κ
  | _, .region _ ops d, κ, _ => regTC X.P X.N ops d κ
  | p, .seq x y, κ, κe => comp X (2 * p) x (cond (X.lab p) (.jump p (X.live p)) (comp X (2 * p + 1) y κ κe)) κe
  | p, .cond c x y, κ, κe => match cOpd c with
    | some c => .cond c (comp X (2 * p) x κ κe) (comp X (2 * p + 1) y κ κe)
    | none => .bad
  | p, .block id x, κ, κe => comp X (2 * p) x κ ((id, κ) :: κe)
  | p, .loop _, _, _ => .jump p (X.live p)
  | _, .exit id, _, κe => lookK X.rnd κe id
  | _, .ret, _, _ => retTC X
  | p, .rangeFunc g ps _ b, κ, κe => match cOpd g with
    | some f => cond (okRng X p ps) (.rng X.f f p ps.size ((X.live p).drop ps.size) (exN b 0) (exN b 1) κ (retTC X) (lookK X.rnd κe (exN b 0)) (lookK X.rnd κe (exN b 1))) .bad
    | none => .bad
  | _, _, _, _ => .bad

def rndX (X : CC) : CC := { X with rnd := true }

def labs : CC → Nat → Code → TC → List (Nat × TC) → List (Nat × TC)
  | X, p, .seq x y, κ, κe =>
    cond (X.lab p) [(p, comp X (2 * p + 1) y κ κe)] [] ++
      (labs X (2 * p) x (cond (X.lab p) (.jump p (X.live p)) (comp X (2 * p + 1) y κ κe)) κe ++ labs X (2 * p + 1) y κ κe)
  | X, p, .cond _ x y, κ, κe => labs X (2 * p) x κ κe ++ labs X (2 * p + 1) y κ κe
  | X, p, .block id x, κ, κe => labs X (2 * p) x κ ((id, κ) :: κe)
  | X, p, .loop x, _, κe => (p, comp X (2 * p) x (.jump p (X.live p)) κe) :: labs X (2 * p) x (.jump p (X.live p)) κe
  | X, p, .rangeFunc _ _ a b, _, _ =>
    (p, comp (rndX X) (4 * p) a (.out (X.live (2 * p + 1))) []) :: (2 * p + 1, comp (rndX X) (4 * p + 1) b (.rnd 0) []) ::
      (labs (rndX X) (4 * p) a (.out (X.live (2 * p + 1))) [] ++ labs (rndX X) (4 * p + 1) b (.rnd 0) [])
  | _, _, _, _, _ => []

/-- a label is the round of a loop over a function -/
def RngOK (P : Program) (A : AP) (fn p : Nat) (lv : List Nat) (ps : Array Tmp) (assign body : Code) (sz : Nat) : Prop :=
  ∃ fc X, A.codes fn = some fc ∧ X.P = P ∧ X.f = fn ∧ X.rnd = true ∧ X.N ≤ sz ∧ fc.labs p = some (ps.toList ++ lv, comp X (4 * p) assign (.out (X.live (2 * p + 1))) []) ∧
    fc.labs (2 * p + 1) = some (X.live (2 * p + 1), comp X (4 * p + 1) body (.rnd 0) []) ∧
    (∀ e ∈ labs X (4 * p) assign (.out (X.live (2 * p + 1))) [], fc.labs e.1 = some (X.live e.1, e.2)) ∧ (∀ e ∈ labs X (4 * p + 1) body (.rnd 0) [], fc.labs e.1 = some (X.live e.1, e.2)) ∧
    ps.toList.Nodup ∧ ∀ t ∈ ps.toList, t < X.N

theorem compL_get {P : Program} {N : Nat} {ops : Array Oper} : ∀ {l : List Oper} {L : List LOp}, compL P N ops l = some L → L.length = l.length ∧ ∀ (i : Nat) o, l[i]? = some o → ∃ lop, L[i]? = some lop ∧ cLOp P N ops o = some lop
  | [], L, h => by cases h; exact ⟨rfl, fun i o ho => by simp at ho⟩
  | o :: r, L, h => by
    simp only [compL] at h
    split at h <;> first | (cases h; done) | skip
    rename_i l ls h1 h2
    cases h
    obtain ⟨k1, k2⟩ := compL_get h2
    refine ⟨by simp [k1], fun i o' ho => ?_⟩
    cases i with
    | zero => simp only [List.getElem?_cons_zero, Option.some.injEq] at ho; subst ho; exact ⟨l, rfl, h1⟩
    | succ i => exact k2 i o' (by simpa using ho)

section
variable {K : Cfg} {C J : CallO} {N : Nat} {n : Nat} {Q : Exit → Act → World → Prop} {G₀ : Ghost} {κ : TC} {r : AV × Store} {ro : Option Nat}

theorem seq_ok (hC : CallSound K C) {ops : Array Oper} (hQ : ∀ a w, Runs K C J N G₀ κ r a w → Q .normal a w) :
    ∀ (l : List Oper) (L : List LOp) (i : Nat), compL K.P N ops l = some L → (∀ (j : Nat) o, l[j]? = some o → ops[i + j]? = some o) → ∀ a w, Runs K C J N G₀ (seqTC L κ) r a w →
      wpOpsIn (WF ro) n K.P ops Q (List.range' i l.length) a w
  | [], L, i, h, _, a, w, hr => by cases h; exact hQ a w hr
  | o :: l, L, i, h, hops, a, w, hr => by
    simp only [compL] at h
    split at h <;> first | (cases h; done) | skip
    rename_i lop ls h1 h2
    cases h
    obtain ⟨G, env, σ, hx, hI, hE, hrun⟩ := hr
    simp only [seqTC, run] at hrun
    obtain ⟨p, hs, hrest⟩ := andR_some hrun
    rw [List.length_cons, List.range'_succ, wpOpsIn_cons]
    unfold wpOpIn
    rw [show ops[i]? = some o from hops 0 o rfl]
    refine step_ok hC hI hE h1 (v := p.1) (σ' := p.2) hs ?_
    intro G' val w' hx' hr' hI' hE'
    rw [← cLOp_dst h1] at hE' ⊢
    exact seq_ok hC hQ l ls (i + 1) h2 (fun j o' ho => by rw [show i + 1 + j = i + (j + 1) by omega]; exact hops (j + 1) o' (by simpa using ho)) _ _
      ⟨G', _, p.2, hx.trans hx', hI', hE', hrest⟩

theorem region_ok (hC : CallSound K C) (hm : K.P.follows .mixedOrders = true) {id : Nat} {ops : Array Oper} {d : Bool} {a : Act} {w : World}
    (h : Runs K C J N G₀ (regTC K.P N ops d κ) r a w) (hQ : ∀ a w, Runs K C J N G₀ κ r a w → Q .normal a w) : (Code.region id ops d).wpIn (WF ro) n K.P Q a w := by
  have nobad : ¬ Runs K C J N G₀ .bad r a w := fun ⟨_, _, _, _, _, _, hb⟩ => by cases hb
  unfold regTC at h
  split at h
  · exact (nobad h).elim
  rename_i L hL
  cases d with
  | false =>
    simp only [cond_false] at h
    refine wpIn_region ?_
    have := seq_ok (ro := ro) (n := n) (Q := Q) hC hQ ops.toList L 0 hL (fun j o ho => by simpa using ho) a w h
    rw [List.range_eq_range']
    simpa using this
  | true =>
    simp only [cond_true, drawTC] at h
    split at h
    case h_2 => exact (nobad h).elim
    rename_i cs hcs
    cases hok : okPlan ops L (mkMs ops ops.size []) (mkPlan L (mkMs ops ops.size []) ops.size) cs with
    | false => rw [hok] at h; exact (nobad h).elim
    | true =>
      rw [hok] at h
      simp only [cond_true] at h
      simp only [okPlan, Bool.and_eq_true] at hok
      obtain ⟨k1, k2⟩ := compL_get hL
      exact region_any_ok hC ⟨by simpa using k1, fun i o ho => k2 i o (by simpa using ho), hok.1, hcs, hok.2.1, hok.2.2.1, hok.2.2.2.1, hok.2.2.2.2.1, hok.2.2.2.2.2⟩ hm h hQ
end

section
variable {K : Cfg} {A : AP} {X : CC} {f : Nat} {fc : FC} {m n : Nat} {G₀ : Ghost} {r : AV × Store} {ro : Option Nat}

def RunsK (K : Cfg) (A : AP) (f : Nat) (N : Nat) (G₀ : Ghost) (k : Nat) (tc : TC) (r : AV × Store) (a : Act) (w : World) : Prop :=
  Runs K (sem A k).1 ((sem A k).2 f) N G₀ tc r a w

def QQ (K : Cfg) (A : AP) (f : Nat) (X : CC) (G₀ : Ghost) (r : AV × Store) (k : Nat) (κ : TC) (κe : List (Nat × TC)) : Exit → Act → World → Prop
  | .normal, a, w => ∃ k', k' ≤ k ∧ RunsK K A f X.N G₀ k' κ r a w
  | .exit id, a, w => ∃ k', k' ≤ k ∧ RunsK K A f X.N G₀ k' (lookK X.rnd κe id) r a w
  | .ret, a, w => ∃ k', k' ≤ k ∧ RunsK K A f X.N G₀ k' (retTC X) r a w
  | _, _, _ => False

theorem QQ.mono {k k' : Nat} (h : k ≤ k') {κ : TC} {κe : List (Nat × TC)} {e : Exit} {a : Act} {w : World} (hq : QQ K A f X G₀ r k κ κe e a w) : QQ K A f X G₀ r k' κ κe e a w := by
  cases e <;> first | exact hq | (obtain ⟨j, h1, h2⟩ := hq; exact ⟨j, Nat.le_trans h1 h, h2⟩)

theorem envOf_get : ∀ (ts : List Nat) (env : Env) (t : Nat), envOf ts (ts.map env) t = env t ∨ envOf ts (ts.map env) t = .top
  | [], _, _ => .inr rfl
  | s :: ts, env, t => by
    simp only [List.map_cons, envOf]
    by_cases e : t = s
    · subst e; rw [upd_same]; exact .inl rfl
    · rw [upd_ne _ _ e]; exact envOf_get ts env t

theorem RunsK.jump (hf : A.codes f = some fc) {p : Nat} {live : List Nat} {tc : TC} (hl : fc.labs p = some (live, tc)) (hgl : A.gl = K.gl) {N k : Nat} {a : Act} {w : World}
    (h : RunsK K A f N G₀ k (.jump p live) r a w) : ∃ k', k = k' + 1 ∧ RunsK K A f N G₀ k' tc r a w := by
  obtain ⟨G, env, σ, hx, hI, hE, hr⟩ := h
  simp only [run] at hr
  cases k with
  | zero => cases hr
  | succ k =>
    refine ⟨k, rfl, G, envOf live (live.map env), σ, hx, hI, ⟨hE.size, fun t => ?_, hE.defers⟩, ?_⟩
    · rcases envOf_get live env t with h | h
      · rw [h]; exact hE.rep t
      · rw [h]; trivial
    · rw [sem] at hr
      simp only [hf, hl] at hr
      rw [← hgl]; exact hr

theorem exists_least {p : Nat → Prop} (h : ∃ n, p n) : ∃ n, p n ∧ ∀ m, p m → n ≤ m := by
  obtain ⟨n, hn⟩ := h
  induction n using Nat.strongRecOn with
  | _ n ih =>
    by_cases hh : ∃ m, m < n ∧ p m
    · obtain ⟨m, h1, h2⟩ := hh; exact ih m h1 h2
    · exact ⟨n, hn, fun m hm => Nat.le_of_not_lt fun hlt => hh ⟨m, hlt, hm⟩⟩

open Classical in
noncomputable def least (p : Nat → Prop) : Nat := if h : ∃ n, p n then (exists_least h).choose else 0

theorem least_spec {p : Nat → Prop} (h : ∃ n, p n) : p (least p) ∧ ∀ m, p m → least p ≤ m := by
  unfold least
  rw [dif_pos h]
  exact (exists_least h).choose_spec

theorem MarksOK.add {G G' : Ghost} {Fx : Nat → Prop} {ds : List Deferred} (h : MarksOK G Fx ds) (hx : ∀ D, G.fx D → G'.fx D) {D : Nat} (h1 : ¬ G.fx D) (h2 : G'.fx D) (h3 : ∀ D, Fx D → G.fx D) :
    MarksOK G' Fx ([{ target := .collected D, args := #[] }] ++ ds) := by
  obtain ⟨Ds, k1, k2, k3⟩ := h
  refine ⟨D :: Ds, by simp [k1], List.nodup_cons.2 ⟨fun hm => h1 (k3 D hm).1, k2⟩, fun D' hD => ?_⟩
  rcases List.mem_cons.1 hD with rfl | hD
  · exact ⟨h2, fun hf => h1 (h3 _ hf)⟩
  · exact ⟨hx _ (k3 D' hD).1, (k3 D' hD).2⟩

def Ghost.addFx (G : Ghost) (D : Nat) : Ghost := { G with fx := fun x => G.fx x ∨ x = D }

theorem Inv.addFx {G : Ghost} {σ : Store} {w : World} (h : Inv K G σ w) : Inv K (G.addFx w.heap.size) σ (w.alloc (.deferred (some []))) ∧ Ext G (G.addFx w.heap.size) := by
  have hx : Ext G (G.addFx w.heap.size) := ⟨fun _ _ _ _ h => h, fun _ g h => ⟨g, h, .refl g⟩, fun _ h => .inl h⟩
  have h1 : Inv K G σ (w.alloc (.deferred (some []))) := h.keep ((Below.refl _ _).alloc (Nat.le_refl _) _)
  refine ⟨{
    len := h1.len
    below := h1.below
    base := h1.base
    ro := fun b o v c hr => by obtain ⟨k1, k2, k3⟩ := h1.ro b o v c hr; exact ⟨k1, k2.mono hx, k3⟩
    obj := fun i g a hg ha => (h1.obj i g a hg ha).mono hx
    sep := h1.sep
    hid := h1.hid
    gl := fun n => (h1.gl n).mono hx
    fx := fun D hD => by
      rcases hD with hD | rfl
      · exact h1.fx D hD
      · exact ⟨h.base, World.alloc_heap_new w _, fun i g hg ho => by have := (h.owned_lt hg _ ho).2; omega⟩ }, hx⟩

theorem caps_of {G : Ghost} {Fx : Nat → Prop} {N : Nat} {env : Env} {a : Act} (hE : EnvOK G Fx N env a) : ∀ (ts : List Nat), CapRep G ts (ts.map env) a.tmps
  | [] => rfl
  | t :: ts => ⟨env t, ts.map env, rfl, hE.rep t, caps_of hE ts⟩

/-- a loop over a function is begun -/
theorem enter_ok {G : Ghost} {σ : Store} {w : World} {Fx : Nat → Prop} {N : Nat} {env : Env} {a : Act} (hI : Inv K G σ w) (hE : EnvOK G Fx N env a) (hFx : ∀ D, Fx D → G.fx D) (hro : ∀ l, ro = some l → ∃ id : Nat, G.obj[id]? = some (GO.loop l))
    {f p : Nat} {lv : List Nat} {ps : Array Tmp} {assign body : Code} (hr : K.rng f p lv ps assign body a.tmps.size) (fn : FuncId) :
    ∃ l mark w₁ G₁, (Instr.enterLoop fn a.tmps ps assign body ro).run K.P w = .ok (l, mark) w₁ ∧ Ext G G₁ ∧ G₁.obj[σ.length]? = some (.loop l) ∧
      Inv K G₁ (σ ++ [.loop ⟨.ready, 0, f, p, ps.size, lv, lv.map env⟩]) w₁ ∧ MarksOK G₁ Fx (mark ++ a.defers) := by
  cases ro with
  | none =>
    obtain ⟨h1, x1⟩ := hI.addFx
    have x2 := (G.addFx w.heap.size).addObj_ext (.loop (w.heap.size + 1))
    have hE1 := hE.mono (x1.trans x2)
    refine ⟨_, _, _, (G.addFx w.heap.size).addObj (.loop (w.heap.size + 1)), run_enterLoop_outer fn a.tmps ps assign body, x1.trans x2, ?_, ?_, ?_⟩
    · rw [← hI.len]; exact (G.addFx w.heap.size).addObj_new _
    · refine h1.allocObj _ (g := .loop (w.heap.size + 1)) ⟨by have := hI.base; omega, { state := .ready, pending := none, fn, tmps := a.tmps, params := ps, assign, body, defers := w.heap.size }, ?_, ⟨rfl, (rfl : (none : Option Code) = none), hr, rfl, caps_of hE1 lv⟩⟩ fun x hx => ?_
      · have := World.alloc_heap_new (w.alloc (.deferred (some []))) (.loop { state := .ready, pending := none, fn, tmps := a.tmps, params := ps, assign, body, defers := w.heap.size })
        rwa [World.size_alloc] at this
      · rw [World.size_alloc]; exact hx
    · refine hE.defers.add (G' := (G.addFx w.heap.size).addObj (.loop (w.heap.size + 1))) (fun D hD => (Or.inl hD : G.fx D ∨ D = w.heap.size)) (fun hf => ?_) (Or.inr rfl : G.fx w.heap.size ∨ w.heap.size = w.heap.size) hFx
      have := (Array.getElem?_eq_some_iff.1 (hI.fx _ hf).2.1).1; omega
  | some l₀ =>
    obtain ⟨id, hid⟩ := hro l₀ rfl
    have hlt : id < σ.length := by rw [← hI.len]; exact lt_of_obj hid
    have hok := hI.obj id _ _ hid (List.getElem?_eq_getElem hlt)
    cases ha : σ[id] <;> rw [ha] at hok <;> simp only [ObjOK] at hok
    obtain ⟨_, r₀, hr0, _⟩ := hok
    have x2 := G.addObj_ext (.loop w.heap.size)
    have hE1 := hE.mono x2
    have hrun : (Instr.enterLoop fn a.tmps ps assign body (some l₀)).run K.P w =
        .ok (w.heap.size, []) (w.alloc (.loop { state := .ready, pending := none, fn, tmps := a.tmps, params := ps, assign, body, defers := r₀.defers })) := by
      unfold Instr.enterLoop
      simp only [Sem.run_bind, run_getLoop hr0, run_newObj_alloc, Result.andThen, Sem.run_pure]
    refine ⟨_, _, _, G.addObj (.loop w.heap.size), hrun, x2, ?_, ?_, hE1.defers⟩
    · rw [← hI.len]; exact G.addObj_new _
    · exact hI.allocObj _ (g := .loop w.heap.size) ⟨hI.base, { state := .ready, pending := none, fn, tmps := a.tmps, params := ps, assign, body, defers := r₀.defers }, World.alloc_heap_new w _, ⟨rfl, (rfl : (none : Option Code) = none), hr, rfl, caps_of hE1 lv⟩⟩ fun x hx => hx

/-- an object that is a loop's record is written -/
theorem setLoop {G : Ghost} {σ : Store} {w : World} (hI : Inv K G σ w) {id l : Nat} (hg : G.obj[id]? = some (GO.loop l)) {la' : LoopA} {r r' : Loop} (hb : K.B ≤ l) (hr : w.heap[l]? = some (.loop r)) (hok : LoopOK K G la' r') :
    Inv K G (σ.set id (.loop la')) (w.putObj l (.loop r')) := by
  have hlt := (Array.getElem?_eq_some_iff.1 hr).1
  refine hI.setObj (g := .loop l) hg (fun k hk ho => World.putObj_heap_other ho) rfl rfl rfl (by simp) (fun x o v c hro ho => ?_) ⟨hb, r', World.putObj_heap_same hlt, hok⟩
  exact (hI.hid id _ hg x o v c ho hro).elim

theorem loop_at {G : Ghost} {σ : Store} {w : World} (hI : Inv K G σ w) {id l : Nat} (hg : G.obj[id]? = some (GO.loop l)) {la : LoopA} (hs : σ[id]? = some (.loop la)) :
    K.B ≤ l ∧ ∃ r, w.heap[l]? = some (.loop r) ∧ LoopOK K G la r := hI.obj id _ _ hg hs

theorem rng_ok {C J : CallO} {Q : Exit → Act → World → Prop} (hC : CallSound K C) (hx0 : ∀ l, ro = some l → ∃ id : Nat, G₀.obj[id]? = some (GO.loop l)) {N : Nat} {a : Act} {w : World} {g : Operand} {ps : Array Tmp} {assign body : Code} {fo : Opd} (hg : cOpd g = some fo)
    {f p e1 e2 : Nat} {lv : List Nat} {κ kr k1 k2 : TC} (hr : ∀ sz, N ≤ sz → K.rng f p lv ps assign body sz)
    (h : Runs K C J N G₀ (.rng f fo p ps.size lv e1 e2 κ kr k1 k2) r a w)
    (q0 : ∀ a w, Runs K C J N G₀ κ r a w → Q .normal a w) (qr : ∀ a w, Runs K C J N G₀ kr r a w → Q .ret a w) (q1 : ∀ a w, Runs K C J N G₀ k1 r a w → Q (.exit e1) a w)
    (q2 : ∀ a w, Runs K C J N G₀ k2 r a w → Q (.exit e2) a w) : (Code.rangeFunc g ps assign body).wpIn (WF ro) n K.P Q a w := by
  obtain ⟨G, env, σ, hx, hI, hE, hrun⟩ := h
  simp only [run] at hrun
  obtain ⟨q, hc, hend⟩ := andR_some hrun
  have hval := opd_ok hI hE hg
  unfold callR at hc
  split at hc <;> first | (cases hc; done) | skip
  rename_i gf fs cs hf
  cases hb : Nat.blt gf yb with
  | false => rw [hb] at hc; cases hc
  | true =>
  rw [hb] at hc
  simp only [cond_true] at hc
  rw [hf] at hval
  obtain ⟨fa, ca, hv, hr1, hr2⟩ := hval
  refine wpIn_rangeFunc fun fn hfn => ?_
  obtain ⟨l, mark, w₁, G₁, henter, x1, hobj, hI1, hmarks⟩ := enter_ok (ro := ro) hI hE hx.fx (fun l hl => by
    obtain ⟨id, hid⟩ := hx0 l hl; exact ⟨id, hx.loop hid⟩) (hr a.tmps.size hE.size) fn
  have hE1 := hE.mono x1
  have hargs : RepL G₁ (fs ++ [.yld σ.length] ++ cs) ((fa ++ #[Value.func (.yield l) #[] #[]]) ++ ca).toList := by
    have h1 := RepL.append (RepL.append (RepL.mono x1 hr1) (RepL.cons (c := .yld σ.length) (v := .func (.yield l) #[] #[]) (cs := []) (vs := []) ⟨l, hobj, rfl⟩ RepL.nil)) (RepL.mono x1 hr2)
    simpa using h1
  obtain ⟨hgood, hent⟩ := (hC _ _ _ _ _ G₁ w₁ ((fa ++ #[Value.func (.yield l) #[] #[]]) ++ ca) hc hI1 hargs).2.2 gf rfl hb
  unfold CallGood at hgood
  rw [hent] at hgood
  refine ⟨l, mark, w₁, { target := .fn (.func gf) ca, args := fa ++ #[Value.func (.yield l) #[] #[]] }, w₁, gf, (fa ++ #[Value.func (.yield l) #[] #[]]) ++ ca, w₁, henter, ?_, fun _ _ => trivial, ?_, fun h => (by simp [WF, Fence.wide] at h), ?_⟩
  · simp [resolve, hv, Deferred.ofValue]; rfl
  · simpa [invoke] using hent
  refine CallsIn.mono (WF.calls (hgood (n - 1))) fun e w₃ hh => ?_
  obtain ⟨val, rfl, G₃, x3, _, hI3⟩ := hh
  have hobj3 := x3.loop hobj
  unfold rngEnd at hend
  split at hend <;> first | (cases hend; done) | skip
  rename_i la hla
  obtain ⟨hlb, rr, hrr, hok⟩ := loop_at hI3 hobj3 hla
  cases hst : (la.st == LoopState.busy) with
  | true => rw [hst] at hend; cases hend
  | false =>
  rw [hst] at hend
  simp only [cond_false] at hend
  have hne : rr.state ≠ .busy := by rw [hok.st]; intro e; rw [e] at hst; simp at hst
  have hI4 := setLoop (la' := { la with st := .exhausted }) (r' := { rr with state := .exhausted }) hI3 hobj3 hlb hrr ⟨rfl, hok.pend, hok.rng, hok.np, hok.caps⟩
  have hE4 : EnvOK G₃ G₀.fx N env { a with defers := mark ++ a.defers } := ⟨hE.size, fun t => ((hE.rep t).mono x1).mono x3, hmarks.mono x3.fx⟩
  have fin : ∀ tc, run C J K.gl tc env (q.2.set σ.length (.loop { la with st := .exhausted })) = some r → Runs K C J N G₀ tc r { a with defers := mark ++ a.defers } (w₃.putObj l (.loop { rr with state := .exhausted })) :=
    fun tc ht => ⟨G₃, env, _, hx.trans (x1.trans x3), hI4, hE4, ht⟩
  refine ⟨rr.pending, _, run_endLoop hrr hne, ?_⟩
  clear hI4
  generalize w₃.putObj l (.loop { rr with state := .exhausted }) = W4 at fin ⊢
  have hp := hok.pend
  revert hend
  cases h0 : Nat.beq la.pend 0 with
  | true =>
    intro hend
    rw [Nat.eq_of_beq_eq_true h0] at hp
    rw [show rr.pending = none from hp]
    exact q0 _ _ (fin _ hend)
  | false =>
  cases h1 : Nat.beq la.pend 1 with
  | true =>
    intro hend
    rw [Nat.eq_of_beq_eq_true h1] at hp
    rw [show rr.pending = some .ret from hp]
    exact wpIn_ret (qr _ _ (fin _ hend))
  | false =>
  cases h2 : Nat.beq la.pend (e1 + 2) with
  | true =>
    intro hend
    rw [Nat.eq_of_beq_eq_true h2] at hp
    rw [show rr.pending = some (.exit e1) from hp]
    exact wpIn_exit (q1 _ _ (fin _ hend))
  | false =>
  cases h3 : Nat.beq la.pend (e2 + 2) with
  | true =>
    intro hend
    rw [Nat.eq_of_beq_eq_true h3] at hp
    rw [show rr.pending = some (.exit e2) from hp]
    exact wpIn_exit (q2 _ _ (fin _ hend))
  | false => intro hend; cases hend

theorem code_ok (hm : K.P.follows .mixedOrders = true) (hX : X.P = K.P) (hXf : X.f = f) (hgl : A.gl = K.gl) (hf : A.codes f = some fc) (hS : ∀ k, k ≤ m → CallSound K (sem A k).1)
    (hR : ∀ fn p lv ps assign body sz, RngOK K.P A fn p lv ps assign body sz → K.rng fn p lv ps assign body sz) (hx0 : ∀ l, ro = some l → ∃ id : Nat, G₀.obj[id]? = some (GO.loop l)) :
    ∀ (c : Code) (p : Nat) (κ : TC) (κe : List (Nat × TC)), (∀ e ∈ labs X p c κ κe, fc.labs e.1 = some (X.live e.1, e.2)) → ∀ k, k ≤ m → ∀ a w,
      RunsK K A f X.N G₀ k (comp X p c κ κe) r a w → c.wpIn (WF ro) n K.P (QQ K A f X G₀ r k κ κe) a w := by
  have nobad : ∀ {k a w}, ¬ RunsK K A f X.N G₀ k .bad r a w := fun ⟨_, _, _, _, _, _, hb⟩ => by cases hb
  intro c
  induction c with
  | skip => intro p κ κe _ k _ a w h; exact wpIn_skip ⟨k, Nat.le_refl _, h⟩
  | region id ops d =>
    intro p κ κe _ k hk a w h
    simp only [comp, hX] at h
    exact region_ok (hS k hk) hm h fun a w h' => ⟨k, Nat.le_refl _, h'⟩
  | seq x y ihx ihy =>
    intro p κ κe hl k hk a w h
    simp only [comp] at h
    simp only [labs, List.mem_append] at hl
    refine wpIn_seq (wpIn_mono (ihx (2 * p) _ κe (fun e he => hl e (.inr (.inl he))) k hk a w h) fun e a w hq => ?_)
    cases e <;> first | exact hq | skip
    obtain ⟨k', hk', h'⟩ := hq
    cases hlab : X.lab p with
    | false =>
      rw [hlab] at h'
      exact wpIn_mono (ihy (2 * p + 1) κ κe (fun e he => hl e (.inr (.inr he))) k' (by omega) a w h') fun e a w hq => hq.mono hk'
    | true =>
      rw [hlab] at h'
      have hp := hl (p, comp X (2 * p + 1) y κ κe) (.inl (by rw [hlab]; exact List.mem_cons_self ..))
      obtain ⟨k'', rfl, h''⟩ := h'.jump hf hp hgl
      exact wpIn_mono (ihy (2 * p + 1) κ κe (fun e he => hl e (.inr (.inr he))) k'' (by omega) a w h'') fun e a w hq => hq.mono (by omega)
  | cond c x y ihx ihy =>
    intro p κ κe hl k hk a w h
    simp only [comp] at h
    simp only [labs, List.mem_append] at hl
    split at h
    · rename_i c' hc
      obtain ⟨G, env, σ, hx, hI, hE, hr⟩ := h
      simp only [run, iff'] at hr
      have hrep := opd_ok hI hE hc
      split at hr
      · rename_i hb
        rw [hb] at hrep
        exact wpIn_cond_true hrep (ihx (2 * p) κ κe (fun e he => hl e (.inl he)) k hk a w ⟨G, env, σ, hx, hI, hE, hr⟩)
      · rename_i hb
        rw [hb] at hrep
        exact wpIn_cond_false hrep (ihy (2 * p + 1) κ κe (fun e he => hl e (.inr he)) k hk a w ⟨G, env, σ, hx, hI, hE, hr⟩)
      · cases hr
    · exact (nobad h).elim
  | block id x ih =>
    intro p κ κe hl k hk a w h
    simp only [comp] at h
    refine wpIn_block (wpIn_mono (ih (2 * p) κ ((id, κ) :: κe) hl k hk a w h) fun e a w hq => ?_)
    cases e <;> first | exact hq | skip
    rename_i id'
    obtain ⟨k', hk', h'⟩ := hq
    simp only [Exit.inBlock]
    by_cases e : id' = id
    · subst e
      rw [if_pos rfl]
      refine ⟨k', hk', ?_⟩
      simpa [lookK] using h'
    · rw [if_neg e]
      refine ⟨k', hk', ?_⟩
      have : Nat.beq id id' = false := by
        cases hb : Nat.beq id id' with
        | false => rfl
        | true => exact absurd (Nat.eq_of_beq_eq_true hb).symm e
      simpa [lookK, this] using h'
  | loop x ih =>
    intro p κ κe hl k hk a w h
    simp only [comp] at h
    simp only [labs, List.mem_cons] at hl
    have hp := hl (p, comp X (2 * p) x (.jump p (X.live p)) κe) (.inl rfl)
    refine wpIn_loop (fun a w => ∃ j, j ≤ k ∧ RunsK K A f X.N G₀ j (.jump p (X.live p)) r a w) (fun a w => least fun j => RunsK K A f X.N G₀ j (.jump p (X.live p)) r a w)
      ⟨k, Nat.le_refl _, h⟩ fun a w hI => ?_
    obtain ⟨j, hj, hrj⟩ := hI
    obtain ⟨l1, l2⟩ := least_spec (p := fun j => RunsK K A f X.N G₀ j (.jump p (X.live p)) r a w) ⟨j, hrj⟩
    have hlj := l2 j hrj
    obtain ⟨k', hk', h'⟩ := RunsK.jump hf hp hgl l1
    refine wpIn_mono (ih (2 * p) (.jump p (X.live p)) κe (fun e he => hl e (.inr he)) k' (by omega) a w h') fun e a' w' hq => ?_
    cases e <;> first | exact hq.elim | (obtain ⟨i, h1, h2⟩ := hq; exact ⟨i, by omega, h2⟩) | skip
    obtain ⟨k'', hk'', h''⟩ := hq
    refine ⟨⟨k'', by omega, h''⟩, ?_⟩
    have := (least_spec (p := fun j => RunsK K A f X.N G₀ j (.jump p (X.live p)) r a' w') ⟨k'', h''⟩).2 k'' h''
    omega
  | rangeFunc g ps x y _ _ =>
    intro p κ κe hl k hk a w h
    simp only [comp] at h
    split at h
    case h_2 => exact (nobad h).elim
    rename_i fo hfo
    cases hokr : okRng X p ps with
    | false => rw [hokr] at h; exact (nobad h).elim
    | true =>
    rw [hokr] at h
    simp only [okRng, Bool.and_eq_true, decide_eq_true_eq, List.all_eq_true] at hokr
    obtain ⟨o1, o2, o3⟩ := hokr
    simp only [labs, List.mem_cons, List.mem_append] at hl
    refine rng_ok (f := X.f) (p := p) (lv := (X.live p).drop ps.size) (hS k hk) hx0 hfo (fun sz hsz => hR _ _ _ _ _ _ _ ⟨fc, rndX X, by rw [hXf]; exact hf, hX, rfl, rfl, hsz, ?_, ?_, ?_, ?_, o2, fun t ht => o3 t ht⟩) h
      (fun a w h => ⟨k, Nat.le_refl _, h⟩) (fun a w h => ⟨k, Nat.le_refl _, h⟩) (fun a w h => ⟨k, Nat.le_refl _, h⟩) (fun a w h => ⟨k, Nat.le_refl _, h⟩)
    · have h1 := hl (p, comp (rndX X) (4 * p) x (.out (X.live (2 * p + 1))) []) (.inl rfl)
      have h2 : X.live p = ps.toList ++ (X.live p).drop ps.size := by
        have := List.take_append_drop ps.size (X.live p)
        rw [o1] at this; exact this.symm
      rw [← h2]; exact h1
    · exact hl (2 * p + 1, comp (rndX X) (4 * p + 1) y (.rnd 0) []) (.inr (.inl rfl))
    · exact fun e he => hl e (.inr (.inr (.inl he)))
    · exact fun e he => hl e (.inr (.inr (.inr he)))
  | exit id => intro p κ κe _ k _ a w h; exact wpIn_exit ⟨k, Nat.le_refl _, h⟩
  | ret => intro p κ κe _ k _ a w h; exact wpIn_ret ⟨k, Nat.le_refl _, h⟩
  | _ => intros; rename_i h; exact (nobad h).elim

end
end Go.Av
