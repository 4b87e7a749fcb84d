/- All orders of a region come to what one order comes to. -/
import Derived.Test.YtfmonjbhfocjbaaGreatDoorAv14
namespace Go.Av
open Go Go.RowKit

def directs (ops : Array Oper) (i : Nat) : List Nat :=
  match ops[i]? with
  | some o => (o.after.toList.filter (Region.binds .any)).map (·.on)
  | none => []

def okMs (ops : Array Oper) (ms : List Nat) : Bool :=
  (List.range ops.size).all fun i =>
    (directs ops i).all (fun d => decide (d < i)) &&
    (List.range ops.size).all fun j => !ancB ms i j || ((directs ops i).contains j || (directs ops i).any fun d => ancB ms d j)

/-- an allocation that hangs on nothing -/
def creO (lop : LOp) : Option (Nat × Nat × List AV) :=
  match lop.op, lop.gd, lop.dst with
  | .alloc ty z, none, some d => cond (z.all fun c => c.const && c.flat) (some (d, ty, z)) none
  | _, _, _ => none

def creL (L : List LOp) : List Nat → Option (List (Nat × Nat × List AV))
  | [] => some []
  | i :: r => match (L[i]?).bind creO, creL L r with
    | some c, some cs => some (c :: cs)
    | _, _ => none

def okReads (L : List LOp) (ms all order : List Nat) : Bool :=
  order.all fun i => match L[i]? with
    | some li => (reads li).all fun t => all.all fun j => match L[j]? with
      | some lj => !(lj.dst == some t) || ancB ms i j
      | none => true
    | none => true

def okDst (L : List LOp) (order : List Nat) : List (Nat × Nat × List AV) → Bool
  | [] => true
  | c :: cs => cs.all (fun c' => !(Nat.beq c'.1 c.1)) && (order.all fun j => match L[j]? with
      | some lj => !(lj.dst == some c.1)
      | none => true) && okDst L order cs

def okTail (ms : List Nat) : List Nat → List Nat → Bool
  | _, [] => true
  | pre, i :: r => !pre.contains i && pre.all (ancB ms i) && okTail ms (i :: pre) r

def okAll (m : Nat) (order : List Nat) : Bool := (List.range m).all order.contains

section
variable {K : Cfg} {C J : CallO} {G : Ghost} {σ : Store} {w : World} {N : Nat} {env : Env} {a : Act} {n : Nat} {Q : Exit → Act → World → Prop} {Fx : Nat → Prop} {ro : Option Nat}
variable {ops : Array Oper} {L : List LOp} {ms order : List Nat}

def Down (ops : Array Oper) (listed : Array Bool) : Prop := ∀ i, listed.getD i false = true → ∀ d ∈ directs ops i, listed.getD d false = true

theorem anc_listed (hm : okMs ops ms = true) {listed : Array Bool} (hd : Down ops listed) : ∀ (i : Nat), i < ops.size → (∀ d ∈ directs ops i, listed.getD d false = true) →
    ∀ j, j < ops.size → ancB ms i j = true → listed.getD j false = true := by
  intro i
  induction i using Nat.strongRecOn with
  | _ i ih =>
    intro hi hdir j hj ha
    have h1 := List.all_eq_true.1 hm i (List.mem_range.2 hi)
    simp only [Bool.and_eq_true] at h1
    have h2 := List.all_eq_true.1 h1.2 j (List.mem_range.2 hj)
    simp only [ha, Bool.not_true, Bool.false_or, Bool.or_eq_true] at h2
    rcases h2 with h2 | h2
    · exact hdir j (List.contains_iff_mem.1 h2)
    · obtain ⟨d, hdm, hda⟩ := List.any_eq_true.1 h2
      have hlt : d < i := by simpa using List.all_eq_true.1 h1.1 d hdm
      exact ih d hlt (by omega) (hd d (hdir d hdm)) j hj hda

open Classical in
/-- the environment when some are done -/
noncomputable def envS (L : List LOp) (env F : Env) (listed : Array Bool) : Env := fun t =>
  if ∃ i lop, listed.getD i false = true ∧ L[i]? = some lop ∧ lop.dst = some t then F t else env t

theorem getD_set {listed : Array Bool} {i j : Nat} (hi : i < listed.size) : (listed.setIfInBounds i true).getD j false = true ↔ j = i ∨ listed.getD j false = true := by
  by_cases e : j = i
  · subst e
    simp [Array.getD_eq_getD_getElem?, hi]
  · rw [getD_set_ne false (Ne.symm e)]
    simp [e]

structure DrawOK (K : Cfg) (N : Nat) (ops : Array Oper) (L : List LOp) (ms cre order tail : List Nat) (cs : List (Nat × Nat × List AV)) : Prop where
  len : L.length = ops.size
  comp : ∀ (i : Nat) o, ops[i]? = some o → ∃ lop, L[i]? = some lop ∧ cLOp K.P N ops o = some lop
  msok : okMs ops ms = true
  creok : creL L cre = some cs
  dstok : okDst L order cs = true
  readsok : okReads L ms (cre ++ order) order = true
  ordok : okOrd L ms order [] [] = true
  tailok : okTail ms (cre ++ order) tail = true
  allok : okAll ops.size (cre ++ (order ++ tail)) = true

theorem cLOp_dst {P : Program} {o : Oper} {lop : LOp} (h : cLOp P N ops o = some lop) : lop.dst = o.dst := by
  unfold cLOp at h
  split at h <;> first | (cases h; done) | skip
  split at h <;> first | (cases h; done) | skip
  cases h; rfl

theorem okOrd_spec : ∀ {order pre effs : List Nat}, okOrd L ms order pre effs = true →
    order.Nodup ∧ (∀ i ∈ order, i ∉ pre) ∧ ∀ (q i : Nat), (effsOf L order)[q]? = some i → (∀ e ∈ effs, ancB ms i e = true) ∧ ∀ (p e : Nat), (effsOf L order)[p]? = some e → p < q → ancB ms i e = true := by
  intro order
  induction order with
  | nil => intro pre effs _; exact ⟨List.nodup_nil, fun i hi => (by cases hi), fun q i h => (by simp [effsOf] at h)⟩
  | cons i order ih =>
    intro pre effs hok
    simp only [okOrd] at hok
    split at hok
    · cases hok
    rename_i lop hlop
    simp only [Bool.and_eq_true] at hok
    obtain ⟨⟨_, hnew⟩, hkind⟩ := hok
    have hnew : i ∉ pre := by simpa using hnew
    have fin : ∀ {effs' : List Nat}, okOrd L ms order (i :: pre) effs' = true → (i :: order).Nodup ∧ ∀ j ∈ i :: order, j ∉ pre := fun {effs'} h => by
      obtain ⟨h1, h2, _⟩ := ih h
      refine ⟨List.nodup_cons.2 ⟨fun hi => h2 i hi (List.mem_cons_self ..), h1⟩, fun j hj hp => ?_⟩
      rcases List.mem_cons.1 hj with rfl | hj
      · exact hnew hp
      · exact h2 j hj (List.mem_cons_of_mem _ hp)
    cases hk : kindLO lop.op with
    | pure =>
      simp only [hk] at hkind
      have hE : effsOf L (i :: order) = effsOf L order := by simp [effsOf, hlop, hk]
      rw [hE]
      exact ⟨(fin hkind).1, (fin hkind).2, (ih hkind).2.2⟩
    | load =>
      simp only [hk, Bool.and_eq_true] at hkind
      have hE : effsOf L (i :: order) = effsOf L order := by simp [effsOf, hlop, hk]
      rw [hE]
      exact ⟨(fin hkind.2).1, (fin hkind.2).2, (ih hkind.2).2.2⟩
    | eff =>
      simp only [hk, Bool.and_eq_true] at hkind
      have hE : effsOf L (i :: order) = i :: effsOf L order := by simp [effsOf, hlop, hk]
      rw [hE]
      refine ⟨(fin hkind.2).1, (fin hkind.2).2, fun q j hq => ?_⟩
      cases q with
      | zero =>
        simp only [List.getElem?_cons_zero, Option.some.injEq] at hq
        subst hq
        exact ⟨fun e he => List.all_eq_true.1 hkind.1 e he, fun p e _ hp => by omega⟩
      | succ q =>
        obtain ⟨h1, h2⟩ := (ih hkind.2).2.2 q j (by simpa using hq)
        refine ⟨fun e he => h1 e (List.mem_append_left _ he), fun p e hpe hp => ?_⟩
        cases p with
        | zero =>
          simp only [List.getElem?_cons_zero, Option.some.injEq] at hpe
          subst hpe
          exact h1 _ (List.mem_append_right _ (List.mem_singleton.2 rfl))
        | succ p => exact h2 p e (by simpa using hpe) (by omega)

theorem creL_get : ∀ {cre : List Nat} {cs : List (Nat × Nat × List AV)}, creL L cre = some cs → cs.length = cre.length ∧
    ∀ (p i : Nat), cre[p]? = some i → ∃ lop d ty z, L[i]? = some lop ∧ cs[p]? = some (d, ty, z) ∧ creO lop = some (d, ty, z)
  | [], cs, h => by cases h; exact ⟨rfl, fun p i h => by simp at h⟩
  | j :: r, cs, h => by
    simp only [creL] at h
    split at h <;> first | (cases h; done) | skip
    rename_i c cs' h1 h2
    cases h
    obtain ⟨k1, k2⟩ := creL_get h2
    refine ⟨by simp [k1], fun p i hp => ?_⟩
    cases p with
    | zero =>
      simp only [List.getElem?_cons_zero, Option.some.injEq] at hp
      subst hp
      rw [Option.bind_eq_some_iff] at h1
      obtain ⟨lop, m1, m2⟩ := h1
      exact ⟨lop, c.1, c.2.1, c.2.2, m1, rfl, m2⟩
    | succ p => exact k2 p i (by simpa using hp)

theorem creO_spec {lop : LOp} {d ty : Nat} {z : List AV} (h : creO lop = some (d, ty, z)) : lop = ⟨some d, .alloc ty z, none⟩ ∧ (∀ c ∈ z, c.const = true) ∧ ∀ c ∈ z, c.flat = true := by
  obtain ⟨dst, op, gd⟩ := lop
  unfold creO at h
  simp only at h
  split at h <;> first | (cases h; done) | skip
  rename_i ty' z' d'
  cases hz : (z'.all fun c => c.const && c.flat) with
  | false => rw [hz] at h; cases h
  | true =>
    rw [hz] at h
    cases h
    rw [List.all_eq_true] at hz
    exact ⟨rfl, fun c hc => by have := hz c hc; simp only [Bool.and_eq_true] at this; exact this.1, fun c hc => by have := hz c hc; simp only [Bool.and_eq_true] at this; exact this.2⟩

/-- what is foreseen comes to be -/
theorem Inv.realise (h : Inv K G σ w) {k : Nat} {ty : Nat} {row : List AV} (hg : G.obj[k]? = some (.virt ty row)) {vs : Array Value} (hr : RepL G row vs.toList) (hf : ∀ c ∈ row, c.flat = true) :
    Inv K (G.setObj k (.box w.heap.size)) σ (w.alloc (.cells vs ty)) ∧ ExtV G (G.setObj k (.box w.heap.size)) := by
  have hlt := (List.getElem?_eq_some_iff.1 hg).1
  have hx : ExtV G (G.setObj k (.box w.heap.size)) := ⟨fun _ _ _ _ h => h, fun j gj hj => by
    simp only [Ghost.setObj, List.getElem?_set]
    by_cases e : k = j
    · subst e
      rw [hg] at hj; cases hj
      exact ⟨.box w.heap.size, by simp [hlt], .virt _ _ _⟩
    · exact ⟨gj, by simp [e, hj], .refl _⟩⟩
  have h1 : Inv K G σ (w.alloc (.cells vs ty)) := h.keep ((Below.refl _ _).alloc (Nat.le_refl _) _)
  have hget : ∀ {j : Nat} {gj : GO}, (G.setObj k (.box w.heap.size)).obj[j]? = some gj → (j = k ∧ gj = .box w.heap.size) ∨ (j ≠ k ∧ G.obj[j]? = some gj) := fun {j gj} hj => by
    simp only [Ghost.setObj, List.getElem?_set] at hj
    by_cases e : k = j
    · subst e; simp [hlt] at hj; exact .inl ⟨rfl, hj.symm⟩
    · simp [e] at hj; exact .inr ⟨fun e' => e e'.symm, hj⟩
  refine ⟨{
    len := by simp [Ghost.setObj, h.len]
    below := h1.below
    base := h1.base
    ro := fun b o v c hr => by
      obtain ⟨m1, m2, m3⟩ := h1.ro b o v c hr
      exact ⟨m1, Rep.monoV hx m2, m3⟩
    obj := fun j gj a hgj ha => by
      rcases hget hgj with ⟨rfl, rfl⟩ | ⟨_, hgj'⟩
      · have hok := h.obj j _ a hg ha
        cases a <;> simp only [ObjOK] at hok
        obtain ⟨rfl, rfl, _⟩ := hok
        exact ⟨h.base, vs, heap_alloc_new w _, RepL.monoV hx hr, hf⟩
      · have hok := h1.obj j gj a hgj' ha
        cases gj <;> cases a <;> simp only [ObjOK] at hok ⊢ <;> try exact hok
        · obtain ⟨m1, vs', m2, m3, m4⟩ := hok; exact ⟨m1, vs', m2, RepL.monoV hx m3, m4⟩
        · obtain ⟨m1, es, cl, m2, m3⟩ := hok; exact ⟨m1, es, cl, m2, m3.monoV hx⟩
        · obtain ⟨m1, r, m2, m3⟩ := hok; exact ⟨m1, r, m2, m3.monoV hx⟩
    sep := fun j l gj gl x hj hl o1 o2 => by
      rcases hget hj with ⟨e, rfl⟩ | ⟨e, hj'⟩
      · rcases hget hl with ⟨e', rfl⟩ | ⟨e', hl'⟩
        · omega
        · have := (h.owned_lt hl' x o2).2
          simp only [GO.owns] at o1; omega
      · rcases hget hl with ⟨e', rfl⟩ | ⟨e', hl'⟩
        · have := (h.owned_lt hj' x o1).2
          simp only [GO.owns] at o2; omega
        · exact h.sep j l gj gl x hj' hl' o1 o2
    hid := fun j gj hj x o v c hh hr => by
      rcases hget hj with ⟨e, rfl⟩ | ⟨e, hj'⟩
      · simp only [GO.hides] at hh
        have := cell_lt (h.ro x o v c hr).1
        omega
      · exact h.hid j gj hj' x o v c hh hr
    gl := fun n => Rep.monoV hx (h.gl n)
    fx := fun D hD => by
      obtain ⟨m1, m2, m3⟩ := h1.fx D hD
      refine ⟨m1, m2, fun j gj hj => ?_⟩
      rcases hget hj with ⟨_, rfl⟩ | ⟨_, hj'⟩
      · have := (Array.getElem?_eq_some_iff.1 (h.fx D hD).2.1).1
        simp only [GO.owns]; omega
      · exact m3 j gj hj' }, hx⟩

theorem EnvOK.monoV {G G' : Ghost} (hx : ExtV G G') (hf : ∀ D, G.fx D → G'.fx D) {Fx : Nat → Prop} {N : Nat} {env : Env} {a : Act} (h : EnvOK G Fx N env a) : EnvOK G' Fx N env a := ⟨h.size, fun t => Rep.monoV hx (h.rep t), h.defers.mono hf⟩

theorem cre_ok (hI : Inv K G σ w) (hE : EnvOK G Fx N env a) {o : Oper} {d ty : Nat} {z : List AV} (hc : cLOp K.P N ops o = some ⟨some d, .alloc ty z, none⟩) (hf : ∀ c ∈ z, c.flat = true) {k : Nat}
    (hg : G.obj[k]? = some (.virt ty z)) {next : Act → World → Prop}
    (hn : ∀ b w' val, Inv K (G.setObj k (.box b)) σ w' → ExtV G (G.setObj k (.box b)) → Rep (G.setObj k (.box b)) (.ptr k 0) val → EnvOK (G.setObj k (.box b)) Fx N (upd env d (.ptr k 0)) (a.put o.dst val) → next (a.put o.dst val) w') :
    if Region.wanted o (yielded ops a.tmps) then o.wpIn (WF ro) n K.P a w next Q else (∀ f, o.about K.P w a.eval = some f → (WF ro).fn f) ∧ next (a.put o.dst undef) w := by
  have hdst := cLOp_dst hc
  unfold cLOp at hc
  split at hc <;> first | (cases hc; done) | skip
  rename_i g h2
  split at hc <;> first | (cases hc; done) | skip
  rename_i hd
  simp only [Option.some.injEq, LOp.mk.injEq] at hc
  obtain ⟨e1, e2, e3⟩ := hc
  subst e3
  have hgd : o.guard = none := by
    cases hgo : o.guard with
    | none => rfl
    | some jb =>
      obtain ⟨j, b⟩ := jb
      rw [hgo] at h2
      simp only [gdC] at h2
      split at h2 <;> cases h2
  have hw : Region.wanted o (yielded ops a.tmps) = true := by simp [Region.wanted, hgd]
  rw [if_pos hw]
  refine ⟨fun _ _ => trivial, ?_⟩
  have hnd : ∀ c, o.op ≠ .defer c := fun c e => by rw [e] at e2; simp [cOp] at e2
  rw [Oper.semAt_plain (WF ro) _ _ hnd]
  cases hop : cOp K.P o.op with
  | none => rw [hop] at e2; cases e2
  | some lo =>
    rw [hop] at e2
    simp only [Option.getD_some] at e2
    subst e2
    obtain ⟨dst, op, typ, pos, after, guard⟩ := o
    simp only at hop hdst e1 hd
    cases op <;> try (simp only [cOp] at hop; (repeat' split at hop) <;> (first | (cases hop; done) | (simp at hop; done)))
    all_goals try (simp [cOp] at hop; done)
    case binOp op T x y T2 =>
      exfalso
      simp only [cOp, cBin] at hop
      (repeat' split at hop) <;> (first | (cases hop; done) | (simp at hop; done))
    case unOp op T x =>
      exfalso
      cases op <;> simp [cOp] at hop
    case makeMap T r =>
      exfalso
      cases r <;> simp [cOp] at hop
    case call c =>
      exfalso
      obtain ⟨callee, cargs, argTypes⟩ := c
      cases callee with
      | invoke r m => simp [cOp, cCall] at hop
      | value f => simp only [cOp, cCall] at hop; (repeat' split at hop) <;> (first | (cases hop; done) | (simp at hop; done))
      | builtin b => cases b <;> simp only [cOp, cCall] at hop <;> (repeat' split at hop) <;> (first | (cases hop; done) | (simp at hop; done))
    case alloc T =>
      simp only [cOp, Option.map_eq_some_iff] at hop
      obtain ⟨z', hz, hzz⟩ := hop
      simp only [LO.alloc.injEq] at hzz
      obtain ⟨rfl, rfl⟩ := hzz
      obtain ⟨zv, h1, h2'⟩ := zeroOf_run hz
      obtain ⟨k1, k2⟩ := vsToAV_rep G h2'
      obtain ⟨hI', hx⟩ := hI.realise hg k1 hf
      have hlt := (List.getElem?_eq_some_iff.1 hg).1
      have hrep : Rep (G.setObj k (.box w.heap.size)) (.ptr k 0) (.pointer (some ⟨w.heap.size, 0, none⟩)) := ⟨w.heap.size, by simp [Ghost.setObj, hlt], rfl⟩
      have hrun : (execOp a.eval ⟨dst, .alloc T, typ, pos, after, guard⟩).run K.P w = .ok (.value (.pointer (some ⟨w.heap.size, 0, none⟩))) (w.alloc (.cells zv.cells T)) := by
        simp [execOp, Instr.alloc, h1, newVar, newRow]
      rw [hrun]
      refine hn w.heap.size _ _ hI' hx hrep ?_
      rw [e1]
      exact (hE.monoV hx (fun _ h => h)).put (by rw [e1] at hd; simpa [dstOk] using hd) hrep

theorem okTail_spec : ∀ {tl pre : List Nat}, okTail ms pre tl = true → ∀ i ∈ tl, i ∉ pre ∧ ∀ j ∈ pre, ancB ms i j = true
  | [], _, _, i, hi => by cases hi
  | k :: r, pre, h, i, hi => by
    simp only [okTail, Bool.and_eq_true] at h
    rcases List.mem_cons.1 hi with rfl | hi
    · exact ⟨by simpa using h.1.1, fun j hj => List.all_eq_true.1 h.1.2 j hj⟩
    · obtain ⟨h1, h2⟩ := okTail_spec h.2 i hi
      exact ⟨fun hp => h1 (List.mem_cons_of_mem _ hp), fun j hj => h2 j (List.mem_cons_of_mem _ hj)⟩

theorem okDst_spec : ∀ {cs : List (Nat × Nat × List AV)}, okDst L order cs = true →
    (∀ (p q : Nat) c c', cs[p]? = some c → cs[q]? = some c' → c.1 = c'.1 → p = q) ∧ ∀ (p : Nat) c, cs[p]? = some c → ∀ j ∈ order, ∀ lj, L[j]? = some lj → lj.dst ≠ some c.1
  | [], _ => ⟨fun p q c c' h => by simp at h, fun p c h => by simp at h⟩
  | c₀ :: cs, h => by
    simp only [okDst, Bool.and_eq_true] at h
    obtain ⟨⟨h1, h2⟩, h3⟩ := h
    obtain ⟨k1, k2⟩ := okDst_spec h3
    have hne : ∀ (q : Nat) c', cs[q]? = some c' → c'.1 ≠ c₀.1 := fun q c' hq e => by
      have := List.all_eq_true.1 h1 c' (List.mem_of_getElem? hq)
      rw [e] at this
      simp at this
    constructor
    · intro p q c c' hp hq e
      cases p with
      | zero => cases q with
        | zero => rfl
        | succ q =>
          simp only [List.getElem?_cons_zero, Option.some.injEq] at hp
          subst hp
          exact absurd e.symm (hne q c' (by simpa using hq))
      | succ p => cases q with
        | zero =>
          simp only [List.getElem?_cons_zero, Option.some.injEq] at hq
          subst hq
          exact absurd e (hne p c (by simpa using hp))
        | succ q => rw [k1 p q c c' (by simpa using hp) (by simpa using hq) e]
    · intro p c hp j hj lj hlj
      cases p with
      | zero =>
        simp only [List.getElem?_cons_zero, Option.some.injEq] at hp
        subst hp
        have := List.all_eq_true.1 h2 j hj
        simp only [hlj] at this
        intro e
        rw [e] at this
        simp at this
      | succ p => exact k2 p c (by simpa using hp) j hj lj hlj

theorem count_set {listed : Array Bool} {i : Nat} (hi : i < listed.size) (hun : listed.getD i false = false) {m fuel : Nat} (hlt : i < m) (hc : (List.range m).countP (fun j => !listed.getD j false) = fuel + 1) :
    (List.range m).countP (fun j => !(listed.setIfInBounds i true).getD j false) = fuel := by
  have hsplit : ∀ (l : List Nat), l.Nodup → i ∈ l → l.countP (fun j => !listed.getD j false) = l.countP (fun j => !(listed.setIfInBounds i true).getD j false) + 1 := by
    intro l
    induction l with
    | nil => intro _ h; cases h
    | cons x l ihl =>
      intro hnd hm
      obtain ⟨hx1, hx2⟩ := List.nodup_cons.1 hnd
      rw [List.countP_cons, List.countP_cons]
      by_cases e : x = i
      · subst e
        have : l.countP (fun j => !(listed.setIfInBounds x true).getD j false) = l.countP (fun j => !listed.getD j false) := by
          apply List.countP_congr
          intro j hj
          have hne : x ≠ j := fun h => hx1 (h ▸ hj)
          rw [getD_set_ne false hne]
        rw [this]
        have h2 : (listed.setIfInBounds x true).getD x false = true := (getD_set hi).2 (.inl rfl)
        simp [hun, h2]
      · have hm' : i ∈ l := by rcases List.mem_cons.1 hm with h | h; exact absurd h.symm e; exact h
        rw [ihl hx2 hm', getD_set_ne false (Ne.symm e)]
        omega
  have := hsplit _ List.nodup_range (List.mem_range.2 hlt)
  omega

theorem ready_spec {listed : Array Bool} (hsz : listed.size = ops.size) {i : Nat} (hi : i ∈ Region.ready .any ops listed) :
    i < ops.size ∧ listed.getD i false = false ∧ (∀ d ∈ directs ops i, listed.getD d false = true) ∧ ∃ o, ops[i]? = some o := by
  obtain ⟨hun, o, ho, hall⟩ := mem_ready.1 hi
  have hlt := (Array.getElem?_eq_some_iff.1 ho).1
  refine ⟨hlt, ?_, fun d hd => ?_, o, ho⟩
  · rw [Array.getD_eq_getD_getElem?, Array.getElem?_eq_getElem (by omega)] at hun ⊢
    exact hun
  · unfold directs at hd
    rw [ho] at hd
    obtain ⟨e, he, rfl⟩ := List.mem_map.1 hd
    obtain ⟨he1, he2⟩ := List.mem_filter.1 he
    exact hall e (by simpa using he1) he2

theorem ready_nil (hm : okMs ops ms = true) {listed : Array Bool} (hsz : listed.size = ops.size) (hr : Region.ready .any ops listed = []) : ∀ i, i < ops.size → listed.getD i false = true := fun i => by
  induction i using Nat.strongRecOn with
  | _ i ih =>
    intro hi
    cases hl : listed.getD i false with
    | true => rfl
    | false =>
      exfalso
      have : i ∈ Region.ready .any ops listed := by
        refine mem_ready.2 ⟨?_, ops[i], Array.getElem?_eq_getElem hi, fun e he hb => ?_⟩
        · rw [Array.getD_eq_getD_getElem?] at hl ⊢
          rw [Array.getElem?_eq_getElem (by omega)] at hl ⊢
          exact hl
        · have hmem : e.on ∈ directs ops i := by
            unfold directs
            rw [Array.getElem?_eq_getElem hi]
            exact List.mem_map.2 ⟨e, List.mem_filter.2 ⟨by simpa using he, hb⟩, rfl⟩
          have h1 := List.all_eq_true.1 hm i (List.mem_range.2 hi)
          simp only [Bool.and_eq_true] at h1
          have hlt : e.on < i := by simpa using List.all_eq_true.1 h1.1 _ hmem
          exact ih _ hlt (by omega)
      rw [hr] at this; cases this

theorem count_zero {listed : Array Bool} {m : Nat} (hc : (List.range m).countP (fun i => !listed.getD i false) = 0) : ∀ i, i < m → listed.getD i false = true := fun i hi => by
  have := List.countP_eq_zero.1 hc i (List.mem_range.2 hi)
  simpa using this

theorem down_set {listed : Array Bool} {i : Nat} (hi : i < listed.size) (hd : Down ops listed) (hdir : ∀ d ∈ directs ops i, listed.getD d false = true) : Down ops (listed.setIfInBounds i true) := fun j hj d hdm => by
  rcases (getD_set hi).1 hj with rfl | hj
  · exact (getD_set hi).2 (.inr (hdir d hdm))
  · exact (getD_set hi).2 (.inr (hd j hj d hdm))

/-- code that is yet to run, and what it comes to -/
def Runs (K : Cfg) (C J : CallO) (N : Nat) (G₀ : Ghost) (tc : TC) (r : AV × Store) (a : Act) (w : World) : Prop :=
  ∃ G env σ, Ext G₀ G ∧ Inv K G σ w ∧ EnvOK G G₀.fx N env a ∧ run C J K.gl tc env σ = some r

/-- operations that stand one behind the other -/
theorem tails (hC : CallSound K C) (hlen : L.length = ops.size) (hcomp : ∀ (i : Nat) o, ops[i]? = some o → ∃ lop, L[i]? = some lop ∧ cLOp K.P N ops o = some lop) (hm : okMs ops ms = true)
    {G₀ : Ghost} {κ : TC} {r : AV × Store} (hQ : ∀ a w, Runs K C J N G₀ κ r a w → Q .normal a w) :
    ∀ (tl pre : List Nat), okTail ms pre tl = true → (∀ i, i < ops.size → i ∈ pre ∨ i ∈ tl) → ∀ (fuel : Nat) (listed : Array Bool) (a : Act) (w : World), listed.size = ops.size →
      (List.range ops.size).countP (fun i => !listed.getD i false) = fuel → (∀ i, i < ops.size → (listed.getD i false = true ↔ i ∈ pre)) → Down ops listed →
      Runs K C J N G₀ (stepsTC L (tl.map fun i => (false, i)) κ) r a w → wpAnyIn (WF ro) n K.P .any ops Q fuel listed a w := by
  intro tl
  induction tl with
  | nil =>
    intro pre _ hall fuel listed a w hsz hc hl hd hr
    have hr' : Region.ready .any ops listed = [] := by
      cases hr : Region.ready .any ops listed with
      | nil => rfl
      | cons i r =>
        exfalso
        obtain ⟨h1, h2, _⟩ := ready_spec hsz (i := i) (by rw [hr]; exact List.mem_cons_self ..)
        have := (hl i h1).2 (by simpa using hall i h1)
        rw [this] at h2; cases h2
    cases fuel with
    | zero => exact ⟨hr', hQ a w hr⟩
    | succ fuel => exact ⟨fun _ => hQ a w hr, fun i hi => by rw [hr'] at hi; cases hi⟩
  | cons i tl ih =>
    intro pre hok hall fuel listed a w hsz hc hl hd hr
    obtain ⟨G, env, σ, hx, hI, hE, hrun⟩ := hr
    simp only [List.map_cons, stepsTC] at hrun
    split at hrun
    case h_2 => cases hrun
    rename_i lop hlop
    have hlt : i < ops.size := by rw [← hlen]; exact (List.getElem?_eq_some_iff.1 hlop).1
    have hspec := okTail_spec hok
    simp only [okTail, Bool.and_eq_true] at hok
    have hun : listed.getD i false = false := by
      cases h : listed.getD i false with
      | false => rfl
      | true => exact absurd ((hl i hlt).1 h) (hspec i (List.mem_cons_self ..)).1
    cases fuel with
    | zero => have := count_zero hc i hlt; rw [this] at hun; cases hun
    | succ fuel =>
      refine ⟨fun hr => ?_, fun j hj => ?_⟩
      · have := ready_nil hm hsz hr i hlt; rw [this] at hun; cases hun
      · obtain ⟨j1, j2, j3, o, ho⟩ := ready_spec hsz hj
        have hji : j = i := by
          rcases hall j j1 with hp | hp
          · have := (hl j j1).2 hp; rw [this] at j2; cases j2
          · rcases List.mem_cons.1 hp with rfl | hp
            · rfl
            · have ha := (okTail_spec hok.2 j hp).2 i (List.mem_cons_self ..)
              have := anc_listed hm hd j j1 j3 i hlt ha
              rw [this] at hun; cases hun
        subst hji
        obtain ⟨lop', hlop', hcl⟩ := hcomp j o ho
        rw [hlop] at hlop'; cases hlop'
        simp only [run] at hrun
        obtain ⟨p, hs, hrest⟩ := andR_some hrun
        unfold wpOpIn
        rw [ho]
        refine step_ok hC hI hE hcl (v := p.1) (σ' := p.2) hs ?_
        intro G' val w' hx' hr' hI' hE'
        rw [← cLOp_dst hcl] at hE' ⊢
        refine ih (j :: pre) hok.2 (fun k hk => ?_) fuel _ _ _ (by simpa using hsz) (count_set (by omega) hun hlt hc) (fun k hk => ?_) (down_set (by omega) hd j3) ⟨G', _, p.2, hx.trans hx', hI', hE', hrest⟩
        · rcases hall k hk with h | h
          · exact .inl (List.mem_cons_of_mem _ h)
          · rcases List.mem_cons.1 h with rfl | h
            · exact .inl (List.mem_cons_self ..)
            · exact .inr h
        · rw [getD_set (by omega), hl k hk, List.mem_cons]

theorem Ext.setObj_ge {G₀ G : Ghost} (h : Ext G₀ G) {k : Nat} (hk : G₀.obj.length ≤ k) (g : GO) : Ext G₀ (G.setObj k g) :=
  ⟨h.ro, fun j gj hj => by
    obtain ⟨g', h1, h2⟩ := h.obj j gj hj
    have := lt_of_obj hj
    exact ⟨g', by simp only [Ghost.setObj]; rw [List.getElem?_set_ne (by omega)]; exact h1, h2⟩, h.fx⟩

/-- what is known of the allocations -/
def CreOK (G : Ghost) (n0 : Nat) (cre : List Nat) (cs : List (Nat × Nat × List AV)) (listed : Array Bool) : Prop :=
  ∀ (p i : Nat) d ty z, cre[p]? = some i → cs[p]? = some (d, ty, z) →
    (listed.getD i false = true → ∃ b, G.obj[n0 + p]? = some (.box b)) ∧ (listed.getD i false = false → G.obj[n0 + p]? = some (.virt ty z))

theorem CreOK.ext {G' : Ghost} {n0 : Nat} {cre : List Nat} {cs : List (Nat × Nat × List AV)} {listed : Array Bool} (h : CreOK G n0 cre cs listed) (hx : Ext G G') : CreOK G' n0 cre cs listed := fun p i d ty z hp hc => by
  obtain ⟨h1, h2⟩ := h p i d ty z hp hc
  refine ⟨fun hl => ?_, fun hl => ?_⟩
  · obtain ⟨b, hb⟩ := h1 hl; exact ⟨b, hx.box hb⟩
  · obtain ⟨g', hg, hle⟩ := hx.obj _ _ (h2 hl)
    cases hle; exact hg

theorem draws {cre tail : List Nat} {cs : List (Nat × Nat × List AV)} (hC : CallSound K C) (hD : DrawOK K N ops L ms cre order tail cs) {F : Env} {ss : Nat → Store} {env : Env} {n0 : Nat}
    (hF : ∀ i, i ∈ order → ∃ lop, L[i]? = some lop ∧ Fact C K.gl ms F ss (effsOf L order) i lop)
    (hcreF : ∀ (p : Nat) d ty z, cs[p]? = some (d, ty, z) → F d = .ptr (n0 + p) 0)
    (hother : ∀ t, (∀ i ∈ cre ++ order, ∀ lop, L[i]? = some lop → lop.dst ≠ some t) → F t = env t)
    (heffs : ∀ i ∈ effsOf L order, ∀ (p q e : Nat), (effsOf L order)[p]? = some e → (effsOf L order)[q]? = some i → p < q → ancB ms i e = true)
    (hnd : ∀ (p q e : Nat), (effsOf L order)[p]? = some e → (effsOf L order)[q]? = some e → p = q)
    {G₀ : Ghost} (hn0 : G₀.obj.length ≤ n0)
    (hQ : ∀ (fuel : Nat) (listed : Array Bool) G' a w, listed.size = ops.size → (List.range ops.size).countP (fun i => !listed.getD i false) = fuel →
      (∀ i, i < ops.size → (listed.getD i false = true ↔ i ∈ cre ++ order)) → Down ops listed → Ext G₀ G' → Inv K G' (ss (effsOf L order).length) w → EnvOK G' Fx N F a →
      wpAnyIn (WF ro) n K.P .any ops Q fuel listed a w) :
    ∀ (fuel : Nat) (listed : Array Bool) (G : Ghost) (a : Act) (w : World) (q : Nat), listed.size = ops.size →
      (List.range ops.size).countP (fun i => !listed.getD i false) = fuel → Down ops listed → (∀ i, i < ops.size → listed.getD i false = true → i ∈ cre ++ order) → Ext G₀ G → q ≤ (effsOf L order).length →
      (∀ (p e : Nat), (effsOf L order)[p]? = some e → (listed.getD e false = true ↔ p < q)) → CreOK G n0 cre cs listed →
      Inv K G (ss q) w → EnvOK G Fx N (envS L env F listed) a → wpAnyIn (WF ro) n K.P .any ops Q fuel listed a w := by
  obtain ⟨hcs, hcget⟩ := creL_get hD.creok
  obtain ⟨hdd, hdo⟩ := okDst_spec hD.dstok
  have hsmall : ∀ i ∈ cre ++ order, i < ops.size := fun i hi => by
    rcases List.mem_append.1 hi with hi | hi
    · obtain ⟨p, hp⟩ := List.getElem?_of_mem hi
      obtain ⟨lop, d, ty, z, h1, _⟩ := hcget p i hp
      rw [← hD.len]; exact (List.getElem?_eq_some_iff.1 h1).1
    · obtain ⟨lop, h1, _⟩ := hF i hi
      rw [← hD.len]; exact (List.getElem?_eq_some_iff.1 h1).1
  have heffO : ∀ (p e : Nat), (effsOf L order)[p]? = some e → e ∈ order := fun p e h => (List.mem_filter.1 (List.mem_of_getElem? h)).1
  -- an allocation is none of the others
  have hcno : ∀ (p i : Nat), cre[p]? = some i → i ∉ order := fun p i hp hi => by
    obtain ⟨lop, d, ty, z, h1, h2, h3⟩ := hcget p i hp
    obtain ⟨rfl, _, _⟩ := creO_spec h3
    exact hdo p _ h2 i hi _ h1 rfl
  have hdone : ∀ (fuel : Nat) (listed : Array Bool) (G : Ghost) (a : Act) (w : World) (q : Nat), listed.size = ops.size → (List.range ops.size).countP (fun i => !listed.getD i false) = fuel → Down ops listed →
      (∀ i, i < ops.size → listed.getD i false = true → i ∈ cre ++ order) → (∀ i ∈ cre ++ order, listed.getD i false = true) → Ext G₀ G → q ≤ (effsOf L order).length →
      (∀ (p e : Nat), (effsOf L order)[p]? = some e → (listed.getD e false = true ↔ p < q)) → Inv K G (ss q) w → EnvOK G Fx N (envS L env F listed) a → wpAnyIn (WF ro) n K.P .any ops Q fuel listed a w := by
    intro fuel listed G a w q hsz hc hdown hsub hall hx hq hpq hI hE
    have hq' : q = (effsOf L order).length := by
      rcases Nat.lt_or_ge q (effsOf L order).length with hlt | hge
      · have h1 := List.getElem?_eq_getElem hlt
        have := (hpq q _ h1).1 (hall _ (List.mem_append_right _ (heffO q _ h1)))
        omega
      · omega
    subst hq'
    refine hQ fuel listed G a w hsz hc (fun i hi => ⟨hsub i hi, hall i⟩) hdown hx hI ⟨hE.size, fun t => ?_, hE.defers⟩
    have h1 := hE.rep t
    unfold envS at h1
    split at h1
    · exact h1
    · rename_i hno
      rw [hother t fun i hi lop hlop hd => hno ⟨i, lop, hall i hi, hlop, hd⟩]
      exact h1
  intro fuel
  induction fuel with
  | zero =>
    intro listed G a w q hsz hc hdown hsub hx hq hpq _ hI hE
    exact hdone 0 listed G a w q hsz hc hdown hsub (fun i hi => count_zero hc i (hsmall i hi)) hx hq hpq hI hE
  | succ fuel ih =>
    intro listed G a w q hsz hc hdown hsub hx hq hpq hcre hI hE
    by_cases hA : ∀ i ∈ cre ++ order, listed.getD i false = true
    · exact hdone (fuel + 1) listed G a w q hsz hc hdown hsub hA hx hq hpq hI hE
    refine ⟨fun hr => absurd (fun i hi => ready_nil hD.msok hsz hr i (hsmall i hi)) hA, fun i hi => ?_⟩
    obtain ⟨hlt, hun', hdir, o, ho⟩ := ready_spec hsz hi
    obtain ⟨lop, hlop, hcl⟩ := hD.comp i o ho
    have hdst := cLOp_dst hcl
    have hancL : ∀ j, j < ops.size → ancB ms i j = true → listed.getD j false = true := anc_listed hD.msok hdown i hlt hdir
    have hmem : i ∈ cre ++ order := by
      have h1 : i ∈ cre ++ (order ++ tail) := List.contains_iff_mem.1 (List.all_eq_true.1 hD.allok i (List.mem_range.2 hlt))
      rcases List.mem_append.1 h1 with h1 | h1
      · exact List.mem_append_left _ h1
      · rcases List.mem_append.1 h1 with h1 | h1
        · exact List.mem_append_right _ h1
        · exact absurd (fun j hj => hancL j (hsmall j hj) ((okTail_spec hD.tailok i h1).2 j hj)) hA
    have hsz' : (listed.setIfInBounds i true).size = ops.size := by simpa using hsz
    have hset : ∀ j, (listed.setIfInBounds i true).getD j false = true ↔ j = i ∨ listed.getD j false = true := fun j => getD_set (by omega)
    have hsetf : ∀ j, (listed.setIfInBounds i true).getD j false = false → j ≠ i ∧ listed.getD j false = false := fun j h => by
      refine ⟨fun e => ?_, ?_⟩
      · rw [(hset j).2 (.inl e)] at h; cases h
      · cases h' : listed.getD j false with
        | false => rfl
        | true => rw [(hset j).2 (.inr h')] at h; cases h
    have hcount := count_set (listed := listed) (i := i) (by omega) hun' hlt hc
    have hdown' := down_set (listed := listed) (i := i) (by omega) hdown hdir
    have hsub' : ∀ j, j < ops.size → (listed.setIfInBounds i true).getD j false = true → j ∈ cre ++ order := fun j hj h => by
      rcases (hset j).1 h with rfl | h
      · exact hmem
      · exact hsub j hj h
    -- the environment once the operation is done
    have henv' : ∀ {v : AV}, (∀ d, lop.dst = some d → F d = v) → updO (envS L env F listed) lop.dst v = envS L env F (listed.setIfInBounds i true) := fun {v} hv => by
      funext t
      by_cases hd : lop.dst = some t
      · rw [hd]
        simp only [updO, upd_same]
        unfold envS
        rw [if_pos ⟨i, lop, (hset i).2 (.inl rfl), hlop, hd⟩]
        exact (hv t hd).symm
      · have : updO (envS L env F listed) lop.dst v t = envS L env F listed t := by
          cases he : lop.dst with
          | none => rfl
          | some d => exact upd_ne _ _ fun e => hd (by rw [he, e])
        rw [this]
        unfold envS
        have hiff : (∃ j lj, listed.getD j false = true ∧ L[j]? = some lj ∧ lj.dst = some t) ↔ (∃ j lj, (listed.setIfInBounds i true).getD j false = true ∧ L[j]? = some lj ∧ lj.dst = some t) := by
          refine ⟨?_, ?_⟩
          · rintro ⟨j, lj, h1, h2, h3⟩
            exact ⟨j, lj, (hset j).2 (.inr h1), h2, h3⟩
          · rintro ⟨j, lj, h1, h2, h3⟩
            rcases (hset j).1 h1 with rfl | h1
            · rw [hlop] at h2; cases h2; exact absurd h3 hd
            · exact ⟨j, lj, h1, h2, h3⟩
        rw [propext hiff]
    rcases List.mem_append.1 hmem with hic | hio
    · -- an allocation
      obtain ⟨p, hp⟩ := List.getElem?_of_mem hic
      obtain ⟨lop', d, ty, z, h1, h2, h3⟩ := hcget p i hp
      rw [hlop] at h1; cases h1
      obtain ⟨rfl, hz1, hz2⟩ := creO_spec h3
      have hne : ∀ (p' e : Nat), (effsOf L order)[p']? = some e → e ≠ i := fun p' e hpe he => hcno p i hp (he ▸ heffO p' e hpe)
      unfold wpOpIn
      rw [ho]
      refine cre_ok hI hE hcl hz2 ((hcre p i d ty z hp h2).2 hun') ?_
      intro b w' val hI' hxV hrep hE'
      have hFd := hcreF p d ty z h2
      have hv : ∀ d', (⟨some d, LO.alloc ty z, none⟩ : LOp).dst = some d' → F d' = .ptr (n0 + p) 0 := fun d' hd' => by cases hd'; exact hFd
      have he2 := henv' hv
      simp only [updO] at he2
      rw [he2] at hE'
      refine ih _ _ _ w' q hsz' hcount hdown' hsub' (hx.setObj_ge (by omega) _) hq (fun p' e hpe => ?_) (fun p' i' d' ty' z' hp' hc' => ?_) hI' hE'
      · rw [hset]
        exact Iff.trans ⟨fun h => h.resolve_left (hne p' e hpe), .inr⟩ (hpq p' e hpe)
      · have hlt2 := (List.getElem?_eq_some_iff.1 ((hcre p i d ty z hp h2).2 hun')).1
        by_cases e : p' = p
        · subst e
          rw [hp] at hp'; cases hp'
          refine ⟨fun _ => ⟨b, by simp [Ghost.setObj, hlt2]⟩, fun hl => ?_⟩
          rw [(hset i).2 (.inl rfl)] at hl; cases hl
        · have hii : i' ≠ i := fun e2 => by
            subst e2
            obtain ⟨lop2, d2, ty2, z2, m1, m2, m3⟩ := hcget p' i' hp'
            rw [hlop] at m1; cases m1
            rw [h3] at m3; cases m3
            exact e (hdd p' p _ _ m2 h2 rfl)
          obtain ⟨c1, c2⟩ := hcre p' i' d' ty' z' hp' hc'
          have hobj : (G.setObj (n0 + p) (.box b)).obj[n0 + p']? = G.obj[n0 + p']? := by
            simp only [Ghost.setObj]; rw [List.getElem?_set_ne (by omega)]
          rw [hobj]
          refine ⟨fun hl => c1 ?_, fun hl => c2 (hsetf i' hl).2⟩
          rcases (hset i').1 hl with h | h
          · exact absurd h hii
          · exact h
    · -- any other
      obtain ⟨lop', hlop', hfact⟩ := hF i hio
      rw [hlop] at hlop'; cases hlop'
      have hcre' : ∀ {G' : Ghost}, CreOK G' n0 cre cs listed → CreOK G' n0 cre cs (listed.setIfInBounds i true) := fun {G'} h p' i' d' ty' z' hp' hc' => by
        have hii : i' ≠ i := fun e => hcno p' i' hp' (e ▸ hio)
        obtain ⟨c1, c2⟩ := h p' i' d' ty' z' hp' hc'
        refine ⟨fun hl => c1 ?_, fun hl => c2 (hsetf i' hl).2⟩
        rcases (hset i').1 hl with h | h
        · exact absurd h hii
        · exact h
      -- what the operation reads is as in the end
      have hread : ∀ t ∈ reads lop, envS L env F listed t = F t := fun t ht => by
        unfold envS
        split
        · rfl
        · rename_i hno
          refine (hother t fun j hj lj hlj hd => ?_).symm
          have hjs := hsmall j hj
          have hr := List.all_eq_true.1 hD.readsok i hio
          simp only [hlop] at hr
          have hr2 := List.all_eq_true.1 (List.all_eq_true.1 hr t ht) j hj
          simp only [hlj, hd, beq_self_eq_true, Bool.not_true, Bool.false_or] at hr2
          exact hno ⟨j, lj, hancL j hjs hr2, hlj, hd⟩
      have hne : ∀ (p e : Nat), (effsOf L order)[p]? = some e → kindLO lop.op ≠ .eff → e ≠ i := fun p e hpe hk he => by
        subst he
        have := (List.mem_filter.1 (List.mem_of_getElem? hpe)).2
        simp only [hlop, beq_iff_eq] at this
        exact hk this
      have hgo : ∀ (v : AV) (q' : Nat), (∀ d, lop.dst = some d → F d = v) → stepO C K.gl F (ss q) lop = some (v, ss q') → q' ≤ (effsOf L order).length →
          (∀ (p e : Nat), (effsOf L order)[p]? = some e → ((listed.setIfInBounds i true).getD e false = true ↔ p < q')) →
          wpOpIn (WF ro) n K.P ops Q i (wpAnyIn (WF ro) n K.P .any ops Q fuel (listed.setIfInBounds i true)) a w := by
        intro v q' hv hs hq' hpq'
        unfold wpOpIn
        rw [ho]
        have hs' : stepO C K.gl (envS L env F listed) (ss q) lop = some (v, ss q') := by rw [stepO_congr hread]; exact hs
        refine step_ok hC hI hE hcl hs' ?_
        intro G' val w' hx' hr' hI' hE'
        rw [← hdst, henv' hv] at hE'
        rw [← hdst]
        exact ih _ G' _ w' q' hsz' hcount hdown' hsub' (hx.trans hx') hq' hpq' (hcre' (hcre.ext hx')) hI' hE'
      cases hk : kindLO lop.op with
      | pure =>
        obtain ⟨v, hv, hs⟩ := hfact.pure hk
        refine hgo v q hv (hs (ss q)) hq fun p e hpe => ?_
        rw [hset]
        refine Iff.trans ⟨fun h => h.resolve_left (hne p e hpe (by rw [hk]; simp)), .inr⟩ (hpq p e hpe)
      | load =>
        have hlq := hfact.load hk q hq (fun p e hpe hp => ?_) (fun p e hpe ha => ?_)
        · obtain ⟨v, hv, hs⟩ := hlq
          refine hgo v q hv hs hq fun p e hpe => ?_
          rw [hset]
          refine Iff.trans ⟨fun h => h.resolve_left (hne p e hpe (by rw [hk]; simp)), .inr⟩ (hpq p e hpe)
        · cases ha : ancB ms e i with
          | false => rfl
          | true =>
            exfalso
            have hle := (hpq p e hpe).2 hp
            have hes := hsmall e (List.mem_append_right _ (heffO p e hpe))
            have := anc_listed hD.msok hdown e hes (hdown e hle) i hlt ha
            rw [this] at hun'; cases hun'
        · have hes := hsmall e (List.mem_append_right _ (heffO p e hpe))
          exact (hpq p e hpe).1 (hancL e hes ha)
      | eff =>
        obtain ⟨v, p, hv, hp, hs⟩ := hfact.eff hk
        have hplt := (List.getElem?_eq_some_iff.1 hp).1
        have hin : i ∈ effsOf L order := List.mem_of_getElem? hp
        have hpq1 : q ≤ p := by
          rcases Nat.lt_or_ge p q with h | h
          · have := (hpq p i hp).2 h; rw [this] at hun'; cases hun'
          · exact h
        have hpq2 : p ≤ q := by
          rcases Nat.lt_or_ge q p with h | h
          · have hq1 := List.getElem?_eq_getElem (show q < (effsOf L order).length by omega)
            have ha := heffs i hin q p _ hq1 hp h
            have hes := hsmall _ (List.mem_append_right _ (heffO q _ hq1))
            have := (hpq q _ hq1).1 (hancL _ hes ha)
            omega
          · exact h
        have : p = q := by omega
        subst this
        refine hgo v (p + 1) hv hs (by omega) fun p' e hpe => ?_
        rw [hset]
        constructor
        · rintro (rfl | h)
          · have := hnd _ _ _ hpe hp; omega
          · have := (hpq p' e hpe).1 h; omega
        · intro h
          rcases Nat.lt_or_ge p' p with h' | h'
          · exact .inr ((hpq p' e hpe).2 h')
          · have : p' = p := by omega
            subst this
            rw [hp] at hpe; cases hpe
            exact .inl rfl

def boxS : List (Nat × Nat × List AV) → Store := List.map fun c => .box c.2.1 c.2.2
def virtG : List (Nat × Nat × List AV) → List GO := List.map fun c => .virt c.2.1 c.2.2

def envCre (env : Env) : Nat → List (Nat × Nat × List AV) → Env
  | _, [] => env
  | n, c :: cs => envCre (upd env c.1 (.ptr n 0)) (n + 1) cs

theorem cre_run {gl : Nat → AV} {κ : TC} {r : AV × Store} : ∀ {cre : List Nat} {cs : List (Nat × Nat × List AV)}, creL L cre = some cs → ∀ {env : Env} {σ : Store},
    run C J gl (stepsTC L (cre.map fun i => (false, i)) κ) env σ = some r → run C J gl κ (envCre env σ.length cs) (σ ++ boxS cs) = some r
  | [], cs, h, env, σ, hr => by cases h; simpa [boxS, envCre, stepsTC] using hr
  | i :: cre, cs, h, env, σ, hr => by
    simp only [creL] at h
    split at h <;> first | (cases h; done) | skip
    rename_i c cs' h1 h2
    cases h
    rw [Option.bind_eq_some_iff] at h1
    obtain ⟨lop, m1, m2⟩ := h1
    obtain ⟨d, ty, z⟩ := c
    obtain ⟨rfl, _, _⟩ := creO_spec m2
    simp only [List.map_cons, stepsTC, m1, run] at hr
    obtain ⟨p, k1, k2⟩ := andR_some hr
    simp only [stepO, doO, eLO, eBox, Option.some.injEq] at k1
    subst k1
    have := cre_run h2 k2
    simpa [envCre, boxS, updO] using this

theorem envCre_other : ∀ {cs : List (Nat × Nat × List AV)} {env : Env} {n : Nat} {t : Nat}, (∀ (p : Nat) c, cs[p]? = some c → c.1 ≠ t) → envCre env n cs t = env t
  | [], _, _, _, _ => rfl
  | c :: cs, env, n, t, h => by
    simp only [envCre]
    rw [envCre_other fun p c' hc => h (p + 1) c' (by simpa using hc), upd_ne _ _ (fun e => h 0 c rfl e.symm)]

theorem envCre_get : ∀ {cs : List (Nat × Nat × List AV)} {env : Env} {n : Nat}, (∀ (p q : Nat) c c', cs[p]? = some c → cs[q]? = some c' → c.1 = c'.1 → p = q) →
    ∀ (p : Nat) c, cs[p]? = some c → envCre env n cs c.1 = .ptr (n + p) 0
  | [], _, _, _, p, c, h => by simp at h
  | c₀ :: cs, env, n, hd, p, c, h => by
    simp only [envCre]
    cases p with
    | zero =>
      simp only [List.getElem?_cons_zero, Option.some.injEq] at h
      subst h
      rw [envCre_other fun q c' hq e => by have := hd (q + 1) 0 c' c₀ (by simpa using hq) rfl e; omega, upd_same]
      rfl
    | succ p =>
      rw [envCre_get (fun p q c c' hp hq e => by have := hd (p + 1) (q + 1) c c' (by simpa using hp) (by simpa using hq) e; omega) p c (by simpa using h)]
      congr 1; omega

theorem Inv.foresee : ∀ {cs : List (Nat × Nat × List AV)} {G : Ghost} {σ : Store} {w : World}, Inv K G σ w → (∀ c ∈ cs, ∀ x ∈ c.2.2, x.const = true) →
    Inv K { G with obj := G.obj ++ virtG cs } (σ ++ boxS cs) w ∧ Ext G { G with obj := G.obj ++ virtG cs }
  | [], G, σ, w, h, _ => by simpa [virtG, boxS] using ⟨h, Ext.refl G⟩
  | c :: cs, G, σ, w, h, hc => by
    have h1 : Inv K (G.addObj (.virt c.2.1 c.2.2)) (σ ++ [.box c.2.1 c.2.2]) w :=
      h.addObj ⟨rfl, rfl, hc c (List.mem_cons_self ..)⟩ (fun x hx => by cases hx) (fun x hx => by cases hx) (fun x o v c hh => by cases hh)
    obtain ⟨h2, h3⟩ := Inv.foresee (cs := cs) h1 fun c' hc' => hc c' (List.mem_cons_of_mem _ hc')
    have e1 : (G.addObj (.virt c.2.1 c.2.2)).obj ++ virtG cs = G.obj ++ virtG (c :: cs) := by simp [Ghost.addObj, virtG]
    have e2 : σ ++ [AO.box c.2.1 c.2.2] ++ boxS cs = σ ++ boxS (c :: cs) := by simp [boxS]
    have e3 : ({ G.addObj (.virt c.2.1 c.2.2) with obj := (G.addObj (.virt c.2.1 c.2.2)).obj ++ virtG cs } : Ghost) = { G with obj := G.obj ++ virtG (c :: cs) } := by
      rw [e1]; rfl
    rw [e3] at h2 h3
    rw [e2] at h2
    exact ⟨h2, (G.addObj_ext _).trans h3⟩

theorem region_any_ok {cre tail : List Nat} {cs : List (Nat × Nat × List AV)} (hC : CallSound K C) (hD : DrawOK K N ops L ms cre order tail cs) (hm : K.P.follows .mixedOrders = true) {G₀ : Ghost} {κ : TC} {r : AV × Store} {id : Nat}
    (h : Runs K C J N G₀ (stepsTC L (cre.map fun i => (false, i)) (stepsTC L (drawSteps L ms order []) (stepsTC L (tail.map fun i => (false, i)) κ))) r a w)
    (hQ : ∀ a w, Runs K C J N G₀ κ r a w → Q .normal a w) : (Code.region id ops true).wpIn (WF ro) n K.P Q a w := by
  obtain ⟨G, env, σ, hx, hI, hE, hr⟩ := h
  have hr1 := cre_run hD.creok hr
  obtain ⟨hcs, hcget⟩ := creL_get hD.creok
  obtain ⟨hdd, hdo⟩ := okDst_spec hD.dstok
  have hcsg : ∀ (p : Nat) c, cs[p]? = some c → ∃ i lop, cre[p]? = some i ∧ L[i]? = some lop ∧ creO lop = some c := fun p c hp => by
    have hlt := (List.getElem?_eq_some_iff.1 hp).1
    have hp' := List.getElem?_eq_getElem (l := cre) (i := p) (by omega)
    obtain ⟨lop, d, ty, z, h1, h2, h3⟩ := hcget p _ hp'
    rw [hp] at h2; cases h2
    exact ⟨_, lop, hp', h1, h3⟩
  obtain ⟨F, ss, k1, k2, k3, k4⟩ := trace (pre := []) (effs := []) (ss := fun _ => σ ++ boxS cs) hD.ordok (fun i hi => (by cases hi)) (fun i hi => (by cases hi)) hr1
  simp only [List.nil_append] at k1 k2 k3
  obtain ⟨o1, _, o3⟩ := okOrd_spec hD.ordok
  refine wpIn_region_any hm ?_
  have hI' : Inv K G σ { w with drawn := w.drawn + 1 } := hI.keep ((Below.refl _ w).drew)
  obtain ⟨hI2, hx2⟩ := hI'.foresee (cs := cs) fun c hc x hxm => by
    obtain ⟨p, hp⟩ := List.getElem?_of_mem hc
    obtain ⟨i, lop, _, _, h3⟩ := hcsg p c hp
    exact (creO_spec h3).2.1 x hxm
  have hfalse : ∀ j, (Array.replicate ops.size false).getD j false = false := fun j => by
    rw [Array.getD_eq_getD_getElem?, Array.getElem?_replicate]; split <;> rfl
  have hglen := hI.len
  refine draws hC hD (Fx := G₀.fx) (env := env) (n0 := σ.length) (G₀ := G) (fun i hi => k1 i (.inr hi)) (fun p d ty z hp => ?_) (fun t ht => ?_) (fun i hi p q e hp hq hlt => (o3 q i hq).2 p e hp hlt) (fun p q e hp hq => ?_)
    (by omega) (fun fuel listed G' a w hsz hc hl hd hx' hI' hE' => ?_) _ _ { G with obj := G.obj ++ virtG cs } a _ 0 (by simp) ?_ ?_ ?_ hx2 (Nat.zero_le _) ?_ ?_ ?_ ?_
  · rw [k4 d fun i hi lop hlop => hdo p _ hp i hi lop hlop]
    exact envCre_get hdd p _ hp
  · rw [k4 t fun i hi => ht i (List.mem_append_right _ hi)]
    refine envCre_other fun p c hp e => ?_
    obtain ⟨i, lop, h1, h2, h3⟩ := hcsg p c hp
    obtain ⟨d, ty, z⟩ := c
    obtain ⟨rfl, _, _⟩ := creO_spec h3
    exact ht i (List.mem_append_left _ (List.mem_of_getElem? h1)) _ h2 (by rw [← e])
  · have hnd : (effsOf L order).Nodup := o1.filter _
    obtain ⟨h1, h2⟩ := List.getElem?_eq_some_iff.1 hp
    obtain ⟨h3, h4⟩ := List.getElem?_eq_some_iff.1 hq
    exact (List.getElem_inj hnd).1 (h2.trans h4.symm)
  · refine tails hC hD.len hD.comp hD.msok hQ tail (cre ++ order) hD.tailok (fun i hi => ?_) fuel listed a w hsz hc hl hd ⟨G', F, _, hx.trans hx', hI', hE', k2⟩
    have h1 : i ∈ cre ++ (order ++ tail) := List.contains_iff_mem.1 (List.all_eq_true.1 hD.allok i (List.mem_range.2 hi))
    simp only [List.mem_append] at h1 ⊢
    rcases h1 with h | h | h
    · exact .inl (.inl h)
    · exact .inl (.inr h)
    · exact .inr h
  · have : ∀ i ∈ List.range ops.size, (!(Array.replicate ops.size false).getD i false) = true := fun i _ => by rw [hfalse]; rfl
    rw [List.countP_eq_length.2 this]; simp
  · intro i hi; rw [hfalse] at hi; cases hi
  · intro i _ hi; rw [hfalse] at hi; cases hi
  · intro p e _
    rw [hfalse]; simp
  · intro p i d ty z hp hc
    refine ⟨fun hl => (by rw [hfalse] at hl; cases hl), fun _ => ?_⟩
    rw [List.getElem?_append_right (by omega)]
    have : σ.length + p - G.obj.length = p := by omega
    rw [this]
    simp [virtG, hc]
  · rw [k3 0 (Nat.le_refl _)]; exact hI2
  · have hE2 := hE.mono hx2
    refine ⟨hE2.size, fun t => ?_, hE2.defers⟩
    have : envS L env F (Array.replicate ops.size false) t = env t := by
      unfold envS
      rw [if_neg]
      rintro ⟨i, lop, h1, _⟩
      rw [hfalse] at h1; cases h1
    rw [this]; exact hE2.rep t

end
end Go.Av
