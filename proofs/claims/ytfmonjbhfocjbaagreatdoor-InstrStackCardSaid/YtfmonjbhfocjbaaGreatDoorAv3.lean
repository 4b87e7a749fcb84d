/- Each operation of the abstract evaluator, and that the model's operation does what it says. -/
import Derived.Test.YtfmonjbhfocjbaaGreatDoorAv2
namespace Go.Av
open Go Go.RowKit

/-- what a value-yielding operation does -/
def SemOK (K : Cfg) (G : Ghost) (w : World) (s : Sem Value) (v : AV) (σ' : Store) : Prop :=
  ∃ val w' G', s.run K.P w = .ok val w' ∧ Ext G G' ∧ Rep G' v val ∧ Inv K G' σ' w'
def SemOKU (K : Cfg) (G : Ghost) (w : World) (s : Sem Unit) (σ' : Store) : Prop :=
  ∃ w' G', s.run K.P w = .ok () w' ∧ Ext G G' ∧ Inv K G' σ' w'

section
variable {K : Cfg} {G : Ghost} {σ : Store} {w : World}

theorem SemOK.pure' {s : Sem Value} {v : AV} {val : Value} (h : Inv K G σ w) (hs : s.run K.P w = .ok val w) (hr : Rep G v val) : SemOK K G w s v σ :=
  ⟨val, w, G, hs, Ext.refl G, hr, h⟩

/-! ### reading a row -/
def loadRow (ag : Bool) (n : Nat) (row : List AV) : Option AV :=
  match ag with
  | true => if n ≤ row.length then some (.agg (row.take n)) else none
  | false => match row with | c :: _ => some c | [] => none

def eLoad (σ : Store) (ag : Bool) (n : Nat) : AV → Option AV
  | .ptr id off => match σ[id]? with
    | some (.box _ row) => loadRow ag n (row.drop off)
    | _ => none
  | .rp row => loadRow ag n row
  | _ => none

/-- cells that lie in a row -/
def Lies (G : Ghost) (w : World) (b o : Nat) (row : List AV) : Prop :=
  ∃ vs : List Value, RepL G row vs ∧ (∀ (j : Nat) v, vs[j]? = some v → w.cell? ⟨b, o + j, none⟩ = some v) ∧ ∀ c ∈ row, c.flat = true

theorem lies_ro (h : Inv K G σ w) : ∀ (row : List AV) (b o : Nat), RoRow G b o row → Lies G w b o row
  | [], _, _, _ => ⟨[], rfl, fun j v hv => by simp at hv, fun c hc => by simp at hc⟩
  | c :: r, b, o, hr => by
    obtain ⟨v, hv⟩ := hr 0 c rfl
    obtain ⟨h1, h2, h3⟩ := h.ro _ _ _ _ hv
    obtain ⟨vs, k1, k2, k3⟩ := lies_ro h r b (o + 1) fun k c' hc => by
      obtain ⟨u, hu⟩ := hr (k + 1) c' (by simpa using hc)
      exact ⟨u, by rw [show o + 1 + k = o + (k + 1) by omega]; exact hu⟩
    refine ⟨v :: vs, ⟨v, vs, rfl, h2, k1⟩, fun j u hu => ?_, fun c' hc' => ?_⟩
    · cases j with
      | zero => simp at hu; subst hu; exact h1
      | succ j => rw [show o + (j + 1) = o + 1 + j by omega]; exact k2 j u (by simpa using hu)
    · rcases List.mem_cons.1 hc' with rfl | hc'
      · exact h3
      · exact k3 c' hc'

theorem lies_box (h : Inv K G σ w) {id off b : Nat} {ty : TypeId} {row : List AV} (hg : G.obj[id]? = some (.box b)) (hs : σ[id]? = some (.box ty row)) : Lies G w b off (row.drop off) := by
  have hok := h.obj id _ _ hg hs
  obtain ⟨_, vs, hb, hr, hf⟩ := hok
  refine ⟨vs.toList.drop off, hr.drop off, fun j v hv => ?_, fun c hc => hf c (List.mem_of_mem_drop hc)⟩
  rw [List.getElem?_drop] at hv
  simp only [World.cell?, hb]
  simpa using hv

theorem add_eq (b o j : Nat) : (⟨b, o, none⟩ : Addr).add j = ⟨b, o + j, none⟩ := by unfold Addr.add; split <;> simp_all

theorem run_loadRow {T : TypeId} {ag : Bool} {n : Nat} (ha : ∀ w, (isAgg T).run K.P w = .ok ag w) (hn : ag = true → ∀ w, (sizeOf T).run K.P w = .ok n w)
    {b o : Nat} {row : List AV} (hl : Lies G w b o row) {v : AV} (hv : loadRow ag n row = some v) :
    ∃ val, (loadVar T ⟨b, o, none⟩).run K.P w = .ok val w ∧ Rep G v val := by
  obtain ⟨vs, h1, h2, h3⟩ := hl
  unfold loadVar
  simp only [Sem.run_bind, ha, Result.andThen_ok]
  cases ag with
  | true =>
    simp only [loadRow] at hv
    split at hv
    · rename_i hle
      cases hv
      have hlen : (vs.take n).length = n := by have := h1.length; simp; omega
      have := run_loadCells_list (P := K.P) w ⟨b, o, none⟩ (vs.take n) fun j v hj => by
        rw [add_eq]
        refine h2 j v ?_
        rw [List.getElem?_take] at hj
        split at hj
        · exact hj
        · cases hj
      rw [hlen] at this
      simp only [if_true, Sem.run_bind, hn rfl, Result.andThen_ok, this, Sem.run_pure]
      exact ⟨_, rfl, _, rfl, by simpa using h1.take n⟩
    · cases hv
  | false =>
    simp only [loadRow] at hv
    cases row with
    | nil => cases hv
    | cons c r =>
      cases hv
      obtain ⟨u, us, rfl, hu, _⟩ := h1
      have hc := h2 0 u rfl
      simp only [Bool.false_eq_true, if_false, load]
      simp only [Sem.run]
      simp at hc
      rw [hc]
      exact ⟨u, rfl, hu⟩

theorem load_ok (h : Inv K G σ w) {T : TypeId} {ag : Bool} {n : Nat} (ha : ∀ w, (isAgg T).run K.P w = .ok ag w) (hn : ag = true → ∀ w, (sizeOf T).run K.P w = .ok n w)
    {a v : AV} {va : Value} (hr : Rep G a va) (he : eLoad σ ag n a = some v) : SemOK K G w (Instr.loadAt T va) v σ := by
  cases a <;> simp only [eLoad] at he <;> try (exact absurd he (by simp))
  case ptr id off =>
    obtain ⟨b, hb, rfl⟩ := hr
    split at he
    · rename_i ty row hs
      obtain ⟨val, k1, k2⟩ := run_loadRow (K := K) ha hn (lies_box h (off := off) hb hs) he
      refine SemOK.pure' h ?_ k2
      simp only [Instr.loadAt, Sem.run_bind, Instr.sureAddr, Sem.run_pure, Result.andThen_ok, k1]
    · cases he
  case rp row =>
    obtain ⟨b, o, rfl, hrow⟩ := hr
    obtain ⟨val, k1, k2⟩ := run_loadRow (K := K) ha hn (lies_ro h row b o hrow) he
    refine SemOK.pure' h ?_ k2
    simp only [Instr.loadAt, Sem.run_bind, Instr.sureAddr, Sem.run_pure, Result.andThen_ok, k1]

/-! ### writing a box -/
def setCells (row : List AV) (off : Nat) : List AV → List AV
  | [] => row
  | c :: cs => setCells (row.set off c) (off + 1) cs

theorem setCells_length (row : List AV) (off : Nat) (cs : List AV) : (setCells row off cs).length = row.length := by
  induction cs generalizing row off with
  | nil => rfl
  | cons c cs ih => simp [setCells, ih]

def eStore (σ : Store) (n : Nat) (a x : AV) : Option Store :=
  match a with
  | .ptr id off => match σ[id]? with
    | some (.box ty row) => if x.cells.length = n ∧ off + n ≤ row.length ∧ x.cells.all AV.flat = true then some (σ.set id (.box ty (setCells row off x.cells))) else none
    | _ => none
  | _ => none

theorem setCells_rep {cs : List AV} {us : List Value} (hr : RepL G cs us) : ∀ {row : List AV} {vs : Array Value} (off : Nat), RepL G row vs.toList →
    ∃ vs' : Array Value, RepL G (setCells row off cs) vs'.toList ∧ vs'.size = vs.size ∧ vs' = (us.zipIdx.foldl (fun (a : Array Value) (p : Value × Nat) => a.setIfInBounds (off + p.2) p.1) vs) := by
  induction cs generalizing us with
  | nil => intro row vs off h; rw [show us = [] from hr]; exact ⟨vs, h, rfl, rfl⟩
  | cons c cs ih =>
    intro row vs off h
    obtain ⟨v, r, rfl, h1, h2⟩ := hr
    obtain ⟨vs', k1, k2, k3⟩ := ih h2 (row := row.set off c) (vs := vs.setIfInBounds off v) (off + 1) (by simpa using h.set h1)
    refine ⟨vs', k1, by simpa using k2, ?_⟩
    rw [k3, List.zipIdx_cons, List.foldl_cons]
    simp only [Nat.add_zero]
    rw [List.zipIdx_succ]
    rw [List.foldl_map]
    congr 1
    funext a p
    obtain ⟨p1, p2⟩ := p
    congr 1
    simp only
    omega

theorem setCells_flat {cs row : List AV} {off : Nat} (h1 : ∀ c ∈ row, c.flat = true) (h2 : ∀ c ∈ cs, c.flat = true) : ∀ c ∈ setCells row off cs, c.flat = true := by
  induction cs generalizing row off with
  | nil => exact h1
  | cons c cs ih =>
    refine ih (fun d hd => ?_) fun d hd => h2 d (List.mem_cons_of_mem _ hd)
    rcases List.mem_or_eq_of_mem_set hd with hd | rfl
    · exact h1 d hd
    · exact h2 _ List.mem_cons_self

/-- storing cells one by one into a block that is known -/
theorem run_storeCells_block (P : Program) (b off : Nat) (ty : TypeId) (fz : Nat × Nat) : ∀ (us : List Value) (i : Nat) (vs : Array Value) (w : World), w.heap[b]? = some (.cells vs ty fz) → fz.2 ≤ off + i →
    off + i + us.length ≤ vs.size → (∀ u ∈ us, u.oneCell' = true) →
    ∃ w' vs', (storeCells ⟨b, off, none⟩ us i).run P w = .ok () w' ∧ w'.heap[b]? = some (.cells vs' ty fz) ∧ (∀ k, k ≠ b → w'.heap[k]? = w.heap[k]?) ∧
      w'.os = w.os ∧ w'.tape = w.tape ∧ w'.output = w.output ∧ w'.heap.size = w.heap.size ∧ vs'.toList = (us.zipIdx.foldl (fun (a : Array Value) (p : Value × Nat) => a.setIfInBounds (off + i + p.2) p.1) vs).toList := by
  intro us
  induction us with
  | nil => intro i vs w hb _ _ _; exact ⟨w, vs, rfl, hb, fun _ _ => rfl, rfl, rfl, rfl, rfl, rfl⟩
  | cons u us ih =>
    intro i vs w hb hfz hl h1
    simp only [List.length_cons] at hl
    have hoff : off + i < vs.size := by omega
    have hc : w.cell? ⟨b, off + i, none⟩ = some vs[off + i] := by simp [World.cell?, hb, hoff]
    have hf : w.frozen? ⟨b, off + i, none⟩ = false := by simp [World.frozen?, hb]; omega
    have hst : (store ((⟨b, off, none⟩ : Addr).add i) u).run P w = .ok () (w.setCell ⟨b, off + i, none⟩ u) := by
      rw [add_eq, run_store P w _ u _ (h1 u (by simp))]
      simp [hc, hf]
    have hb' : (w.setCell ⟨b, off + i, none⟩ u).heap[b]? = some (.cells (vs.setIfInBounds (off + i) u) ty fz) := by
      simp [World.setCell, Array.getElem?_modify, hb]
    obtain ⟨w', vs', k1, k2, k3, k4, k5, k6, k7, k8⟩ := ih (i + 1) (vs.setIfInBounds (off + i) u) _ hb' (by omega) (by simp; omega) fun x hx => h1 x (by simp [hx])
    refine ⟨w', vs', ?_, k2, fun k hk => ?_, k4, k5, k6, by rw [k7]; simp, ?_⟩
    · simp only [storeCells, Sem.run_bind, hst, Result.andThen_ok]; exact k1
    · rw [k3 k hk]; exact Below.heap_setCell w _ u k (by simpa using hk)
    · rw [k8, List.zipIdx_cons, List.foldl_cons, List.zipIdx_succ, List.foldl_map]
      simp only [Nat.add_zero]
      congr 2
      funext a p
      obtain ⟨p1, p2⟩ := p
      congr 1
      simp only
      omega

theorem store_ok (h : Inv K G σ w) {T : TypeId} {n : Nat} (hn : ∀ w, (sizeOf T).run K.P w = .ok n w)
    {a x : AV} {va vx : Value} (hr : Rep G a va) (hx : Rep G x vx) {σ' : Store} (he : eStore σ n a x = some σ') : SemOKU K G w (Instr.storeAt T va vx) σ' := by
  refine ?_
  match a, hr, he with
  | .bool _, _, he | .int _ _, _, he | .str _, _, he | .agg _, _, he | .tup _, _, he | .sl _ _ _, _, he | .sa _ _ _ _ _, _, he | .nilp, _, he | .rp _, _, he | .fn _ _ _, _, he | .nilf, _, he | .map _, _, he | .nilm, _, he | .ifc _ _, _, he | .nili, _, he | .top, _, he => simp [eStore] at he
  | .ptr id off, hr, he => ?_
  simp only [eStore] at he
  obtain ⟨b, hb, rfl⟩ := hr
  split at he
  · rename_i ty row hs
    split at he
    · rename_i hc
      obtain ⟨h1, h2, h3⟩ := hc
      cases he
      have hok := h.obj id _ _ hb hs
      obtain ⟨hB, vs, hbl, hrow, hfl⟩ := hok
      have hxc := hx.cells (isTop_of_flat h3)
      have hlen := hxc.length
      have hone : ∀ u ∈ vx.cells.toList, u.oneCell' = true := fun u hu => by
        obtain ⟨j, hj⟩ := List.getElem?_of_mem hu
        obtain ⟨c, hc, hrc⟩ := hxc.get' j u hj
        exact (hrc.one (List.all_eq_true.1 h3 c (List.mem_of_getElem? hc))).1
      obtain ⟨w', vs', k1, k2, k3, k4, k5, k6, k7, k8⟩ := run_storeCells_block K.P b off ty (0, 0) vx.cells.toList 0 vs w hbl (Nat.zero_le _) (by have := hrow.length; simp at this hlen ⊢; omega) hone
      obtain ⟨vs2, m1, m2, m3⟩ := setCells_rep hxc (row := row) (vs := vs) off hrow
      have e2 : vs' = vs2 := by
        apply Array.toList_inj.1
        rw [k8, m3]
        simp
      refine ⟨w', G, ?_, Ext.refl G, h.setObj hb (fun k hk ho => k3 k ho) k4 k5 k6 (by omega) (fun b' o v c hro ho => ?_) ?_⟩
      · have hsz : vx.cells.size = n := by simpa using hlen.symm.trans h1
        have k1' : (storeCells ⟨b, off, none⟩ vx.cells.toList).run K.P w = .ok () w' := k1
        simp [Instr.storeAt, Instr.sureAddr, storeVar, hn, hsz, k1']
      · exact absurd hro (h.hid id _ hb b' o v c ho)
      · refine ⟨hB, vs', k2, by rw [e2]; exact m1, setCells_flat hfl (List.all_eq_true.1 h3)⟩
    · cases he
  · cases he

end
end Go.Av
