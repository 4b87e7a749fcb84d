/- New memory: boxes, literals, appends. -/
import Derived.Test.YtfmonjbhfocjbaaGreatDoorAv5
namespace Go.Av
open Go Go.RowKit

section
variable {K : Cfg} {G : Ghost} {σ : Store} {w : World}

/-! ### boxes -/
def eBox (σ : Store) (ty : TypeId) (row : List AV) : AV × Store := (.ptr σ.length 0, σ ++ [.box ty row])

theorem newBox (h : Inv K G σ w) (ty : TypeId) {row : List AV} {vs : Array Value} (hr : RepL G row vs.toList) (hf : ∀ c ∈ row, c.flat = true) :
    ∃ G', Ext G G' ∧ Rep G' (.ptr σ.length 0) (.pointer (some ⟨w.heap.size, 0, none⟩)) ∧ Inv K G' (σ ++ [.box ty row]) (w.alloc (.cells vs ty)) := by
  have hx := G.addObj_ext (.box w.heap.size)
  refine ⟨G.addObj (.box w.heap.size), hx, ⟨_, by rw [← h.len]; exact G.addObj_new _, rfl⟩, ?_⟩
  refine h.allocObj _ ⟨h.base, vs, heap_alloc_new w _, hr.mono hx, hf⟩ fun x hx => hx

theorem alloc_ok (h : Inv K G σ w) {T : TypeId} {row : List AV} (hz : zeroOf K.P T = some row) : SemOK K G w (Instr.alloc T true (.tuple #[])) (eBox σ T row).1 (eBox σ T row).2 := by
  obtain ⟨z, h1, h2⟩ := zeroOf_run hz
  obtain ⟨k1, k2⟩ := vsToAV_rep G h2
  obtain ⟨G', hx, hr, hi⟩ := newBox h T k1 k2
  refine ⟨_, _, G', ?_, hx, hr, hi⟩
  simp [Instr.alloc, h1, newVar, newRow]

theorem box_ok (h : Inv K G σ w) {T : TypeId} {x : AV} {vx : Value} (hx : Rep G x vx) (hf : x.cells.all AV.flat = true) : SemOK K G w (Instr.box T vx) (eBox σ T x.cells).1 (eBox σ T x.cells).2 := by
  obtain ⟨G', hx', hr, hi⟩ := newBox h T (hx.cells (isTop_of_flat hf)) (List.all_eq_true.1 hf)
  refine ⟨_, _, G', ?_, hx', hr, hi⟩
  simp [Instr.box, newVar, newRow]

/-! ### literals of structs and arrays -/
def eFill (cells : List AV) : List (Nat × Nat × AV) → Option (List AV)
  | [] => some cells
  | (off, n, x) :: r => if x.isTop = false ∧ x.cells.length = n ∧ off + n ≤ cells.length then eFill (setCells cells off x.cells) r else none

theorem fill_ok {place : Nat → Option (Nat × Nat)} : ∀ {parts : List (Nat × Nat × AV)} {vparts : List (Nat × Value)} {cells : List AV} {vs : Array Value} {cells' : List AV},
    parts.length = vparts.length → (∀ (j : Nat) p q, parts[j]? = some p → vparts[j]? = some q → place q.1 = some (p.1, p.2.1) ∧ Rep G p.2.2 q.2) → RepL G cells vs.toList →
    eFill cells parts = some cells' → ∃ vs', Instr.fill place vs vparts = some vs' ∧ RepL G cells' vs'.toList := by
  intro parts
  induction parts with
  | nil =>
    intro vparts cells vs cells' hl _ hr he
    cases vparts with
    | nil => cases he; exact ⟨vs, rfl, hr⟩
    | cons => simp at hl
  | cons p parts ih =>
    intro vparts cells vs cells' hl hp hr he
    cases vparts with
    | nil => simp at hl
    | cons q vparts =>
      obtain ⟨off, n, x⟩ := p
      obtain ⟨i, u⟩ := q
      obtain ⟨h1, h2⟩ := hp 0 _ _ rfl rfl
      simp only at h1 h2
      simp only [eFill] at he
      split at he
      · rename_i hc
        obtain ⟨c0, c1, c2⟩ := hc
        have hxc := h2.cells c0
        have hlen := hxc.length
        have hlc := hr.length
        simp only [Array.length_toList] at hlen hlc
        obtain ⟨vs2, m1, m2, m3⟩ := setCells_rep hxc (row := cells) (vs := vs) off hr
        obtain ⟨vs', k1, k2⟩ := ih (vs := vs2) (by simpa using hl) (fun j p q hp' hq => hp (j + 1) p q (by simpa using hp') (by simpa using hq)) m1 he
        refine ⟨vs', ?_, k2⟩
        simp only [Instr.fill, h1]
        rw [if_neg (by simp; omega)]
        rw [← k1, m3]
        congr 1
        rw [← Array.foldl_toList, Array.toList_zipIdx]
      · cases he

def eBuild (zero : List AV) (parts : List (Nat × Nat × AV)) : Option AV := (eFill zero parts).map .agg

/-- the places of a struct's fields, an array's elements -/
def placeOf (P : Program) (T : TypeId) (j : Nat) : Option (Nat × Nat) :=
  match P.underlying T with
  | some (.struct _) => (fldOf P T j).map fun p => (p.1, p.2.1)
  | some (.array _ e) => (szOf P e).map fun n => (j * n, n)
  | _ => none

/-- all of a struct's fields have a size -/
def placesOk (P : Program) (T : TypeId) : Bool :=
  match P.underlying T with
  | some (.struct fs) => fs.all fun f => (szOf P f.type).isSome
  | some (.array _ e) => (szOf P e).isSome
  | _ => false

theorem run_mapM_places {P : Program} (w : World) : ∀ (l : List Field), (∀ f ∈ l, (szOf P f.type).isSome = true) →
    (l.mapM (m := Sem) fun f => Prod.mk f.offset <$> sizeOf f.type).run P w = .ok (l.map fun f => (f.offset, (szOf P f.type).getD 0)) w := by
  intro l
  induction l with
  | nil => intro _; rfl
  | cons f l ih =>
    intro h
    obtain ⟨n, hn⟩ := Option.isSome_iff_exists.1 (h f (by simp))
    have := ih fun g hg => h g (by simp [hg])
    simp [List.mapM_cons, szOf_run hn, this, hn]

theorem build_ok (h : Inv K G σ w) {T : TypeId} {zero : List AV} (hz : zeroOf K.P T = some zero) (hp : placesOk K.P T = true) {parts : List (Nat × Nat × AV)} {vparts : Array (Nat × Value)}
    (hl : parts.length = vparts.toList.length) (hpl : ∀ (j : Nat) p q, parts[j]? = some p → vparts.toList[j]? = some q → placeOf K.P T q.1 = some (p.1, p.2.1) ∧ Rep G p.2.2 q.2) {v : AV}
    (he : eBuild zero parts = some v) : SemOK K G w (Instr.build T vparts) v σ := by
  obtain ⟨z, h1, h2⟩ := zeroOf_run hz
  obtain ⟨k1, k2⟩ := vsToAV_rep G h2
  simp only [eBuild, Option.map_eq_some_iff] at he
  obtain ⟨cs, he, rfl⟩ := he
  unfold placesOk at hp
  split at hp
  · rename_i fs hu
    have hall : ∀ f ∈ fs.toList, (szOf K.P f.type).isSome = true := by
      rw [← Array.all_toList] at hp
      exact List.all_eq_true.1 hp
    obtain ⟨vs', m1, m2⟩ := fill_ok (place := fun j => Option.map (fun f => (f.offset, (szOf K.P f.type).getD 0)) fs[j]?) hl (fun j p q hp' hq => by
      obtain ⟨n1, n2⟩ := hpl j p q hp' hq
      refine ⟨?_, n2⟩
      simp only [placeOf, hu, fldOf] at n1
      cases hf : fs[q.1]? with
      | none => simp [hf] at n1
      | some f =>
        simp only [hf] at n1
        split at n1
        · rename_i n a e1 e2
          simp at n1
          simp [e1, n1]
        · simp at n1) k1 he
    refine SemOK.pure' h (val := .agg vs') ?_ ⟨vs', rfl, m2⟩
    have hmap := run_mapM_places (P := K.P) w fs.toList hall
    simp [Instr.build, h1, run_underlying hu, Array.mapM_eq_mapM_toList, hmap, m1]
  · rename_i n e hu
    obtain ⟨sz, hsz⟩ := Option.isSome_iff_exists.1 hp
    obtain ⟨vs', m1, m2⟩ := fill_ok (place := fun j => some (j * sz, sz)) hl (fun j p q hp' hq => by
      obtain ⟨n1, n2⟩ := hpl j p q hp' hq
      refine ⟨?_, n2⟩
      simpa [placeOf, hu, hsz] using n1) k1 he
    refine SemOK.pure' h (val := .agg vs') ?_ ⟨vs', rfl, m2⟩
    simp [Instr.build, h1, run_underlying hu, szOf_run hsz, m1]
  · cases hp

/-! ### slices' literals -/
def eBsl (es n : Nat) (els : List AV) : List (Nat × AV) → Option (List AV)
  | [] => some els
  | (i, x) :: r => if x.isTop = false ∧ x.cells.length = es ∧ i < n then eBsl es n (els.set i x) r else none

theorem flat_cells {l : List AV} {es : Nat} (h : ∀ el ∈ l, el.cells.length = es) (i : Nat) (el : AV) (hi : l[i]? = some el) (k : Nat) (c : AV) (hc : el.cells[k]? = some c) :
    (l.flatMap AV.cells)[i * es + k]? = some c := by
  induction l generalizing i with
  | nil => simp at hi
  | cons a l ih =>
    have ha : a.cells.length = es := h a (by simp)
    cases i with
    | zero =>
      simp at hi; subst hi
      have hk : k < a.cells.length := (List.getElem?_eq_some_iff.1 hc).1
      rw [List.flatMap_cons, Nat.zero_mul, Nat.zero_add, List.getElem?_append_left hk]; exact hc
    | succ i =>
      rw [List.flatMap_cons, List.getElem?_append_right (by rw [ha, Nat.add_mul]; omega), ha]
      rw [show (i + 1) * es + k - es = i * es + k by rw [Nat.add_mul]; omega]
      exact ih (fun el hel => h el (by simp [hel])) i (by simpa using hi)

/-- a new row of elements is a slice -/
theorem newSlice (h : Inv K G σ w) (ty : TypeId) {es : Nat} {els : List AV} {vs : Array Value} {cap : Nat} (rest : List AV) (hes : ∀ el ∈ els, el.cells.length = es)
    (hr : RepL G (els.flatMap AV.cells ++ rest) vs.toList) (hf : ∀ c ∈ els.flatMap AV.cells ++ rest, c.flat = true) (hcap : els.length ≤ cap) (o : Own)
    (ho : OwnRep G o (some ⟨w.heap.size, 0, none⟩) els.length cap es) :
    ∃ G', Ext G G' ∧ Rep G' (.sl o es els) (.slice (some ⟨w.heap.size, 0, none⟩) els.length cap) ∧ Inv K G' σ (w.alloc (.cells vs ty)) := by
  have hx := G.addRow_ext w.heap.size 0 (els.flatMap AV.cells ++ rest) vs.toList
  have hs : SliceRep (G.addRow w.heap.size 0 (els.flatMap AV.cells ++ rest) vs.toList) o es els (some ⟨w.heap.size, 0, none⟩) els.length cap := {
    hlen := rfl
    hcap := hcap
    hnil := fun e => by cases e
    hes := fun i el hel => hes el (List.mem_of_getElem? hel)
    hspot := fun x e _ => by cases e; rfl
    hrow := fun x e i el hel k c hc => by
      cases e
      have h1 := flat_cells hes i el hel k c hc
      have h2 := G.addRow_row w.heap.size 0 hr (i * es + k) c (by rw [List.getElem?_append_left (List.getElem?_eq_some_iff.1 h1).1]; exact h1)
      simpa [Nat.add_assoc] using h2
    hown := ho.mono hx }
  exact ⟨_, hx, ⟨_, _, _, rfl, hs⟩, h.allocRow ty hr hf⟩

theorem setCells_append (d : List AV) : ∀ (a b c : List AV), b.length = d.length → setCells (a ++ b ++ c) a.length d = a ++ d ++ c := by
  induction d with
  | nil => intro a b c hb; have : b = [] := List.eq_nil_of_length_eq_zero hb; subst this; simp [setCells]
  | cons x d ih =>
    intro a b c hb
    cases b with
    | nil => simp at hb
    | cons y b =>
      have h1 : (a ++ y :: b ++ c).set a.length x = (a ++ [x]) ++ b ++ c := by simp
      have h2 := ih (a ++ [x]) b c (by simpa using hb)
      simp only [setCells, h1]
      simpa using h2

theorem flat_length {els : List AV} {es : Nat} (hes : ∀ el ∈ els, el.cells.length = es) : (els.flatMap AV.cells).length = els.length * es := by
  induction els with
  | nil => simp
  | cons a l ih => rw [List.flatMap_cons, List.length_append, ih fun el hel => hes el (by simp [hel]), hes a (by simp), List.length_cons, Nat.add_mul]; omega

theorem flat_set {els : List AV} {es : Nat} (hes : ∀ el ∈ els, el.cells.length = es) {i : Nat} (hi : i < els.length) {x : AV} (hx : x.cells.length = es) :
    setCells (els.flatMap AV.cells) (i * es) x.cells = (els.set i x).flatMap AV.cells := by
  have h1 : els = els.take i ++ [els[i]] ++ els.drop (i + 1) := by simp
  have h2 : (els.take i).length = i := by simp; omega
  have h3 : (els[i]).cells.length = es := hes _ (List.getElem_mem hi)
  have h4 : ((els.take i).flatMap AV.cells).length = i * es := by rw [flat_length fun el hel => hes el (List.mem_of_mem_take hel), h2]
  have h5 : els.set i x = els.take i ++ [x] ++ els.drop (i + 1) := by
    rw [List.set_eq_take_append_cons_drop]; simp [hi]
  rw [h5]
  conv => lhs; rw [h1]
  simp only [List.flatMap_append, List.flatMap_cons, List.flatMap_nil, List.append_nil]
  have := setCells_append x.cells ((els.take i).flatMap AV.cells) (els[i]).cells ((els.drop (i + 1)).flatMap AV.cells) (by rw [h3, hx])
  rw [h4] at this
  exact this

theorem bsl_fill {es n : Nat} : ∀ {parts : List (Nat × AV)} {els els' : List AV}, els.length = n → (∀ el ∈ els, el.cells.length = es) → eBsl es n els parts = some els' →
    eFill (els.flatMap AV.cells) (parts.map fun p => (p.1 * es, es, p.2)) = some (els'.flatMap AV.cells) ∧ els'.length = n ∧ ∀ el ∈ els', el.cells.length = es := by
  intro parts
  induction parts with
  | nil => intro els els' hl hes he; cases he; exact ⟨rfl, hl, hes⟩
  | cons p parts ih =>
    obtain ⟨i, x⟩ := p
    intro els els' hl hes he
    simp only [eBsl] at he
    split at he
    · rename_i hc
      have hes' : ∀ el ∈ els.set i x, el.cells.length = es := fun el hel => by
        rcases List.mem_or_eq_of_mem_set hel with hel | rfl
        · exact hes el hel
        · exact hc.2.1
      obtain ⟨k1, k2, k3⟩ := ih (els := els.set i x) (by simpa using hl) hes' he
      refine ⟨?_, k2, k3⟩
      simp only [List.map_cons, eFill]
      rw [if_pos ⟨hc.1, hc.2.1, by rw [flat_length hes, hl]; have := Nat.mul_le_mul_right es (show i + 1 ≤ n by omega); rw [Nat.add_mul] at this; omega⟩]
      rw [flat_set hes (by omega) hc.2.1]
      exact k1
    · cases he

theorem replicate_get {z : AV} {es n : Nat} (hz : z.cells.length = es) (j : Nat) (hj : j < n * es) : ((List.replicate n z).flatMap AV.cells)[j]? = z.cells[j % es]? := by
  have he : 0 < es := by rcases Nat.eq_zero_or_pos es with h | h; · subst h; simp at hj
                         · exact h
  have hm : j % es < es := Nat.mod_lt _ he
  have hd : j / es < n := (Nat.div_lt_iff_lt_mul he).2 hj
  have h1 := flat_cells (l := List.replicate n z) (es := es) (fun el hel => by rw [List.eq_of_mem_replicate hel]; exact hz) (j / es) z (by simp [hd]) (j % es) (z.cells[j % es]'(by omega)) (List.getElem?_eq_getElem _)
  have h2 : j / es * es + j % es = j := by rw [Nat.mul_comm]; exact Nat.div_add_mod j es
  rw [h2] at h1
  rw [h1, List.getElem?_eq_getElem (by omega)]

theorem zeros_rep {z : AV} {zs : Array Value} {es n : Nat} (hr : RepL G z.cells zs.toList) (hz : z.cells.length = es) :
    RepL G ((List.replicate n z).flatMap AV.cells) ((Array.range (n * es)).map (zs[· % zs.size]!)).toList := by
  have hsz : zs.size = es := by have := hr.length; simp at this; omega
  refine RepL.of_get (by rw [flat_length (es := es) fun el hel => by rw [List.eq_of_mem_replicate hel]; exact hz]; simp) fun j c v hc hv => ?_
  have hj : j < n * es := by have := (List.getElem?_eq_some_iff.1 hv).1; simpa using this
  rw [replicate_get hz j hj] at hc
  obtain ⟨u, hu, hru⟩ := hr.get _ c hc
  have he : 0 < es := by rcases Nat.eq_zero_or_pos es with h | h; · subst h; simp at hj
                         · exact h
  have hm : j % es < zs.size := by rw [hsz]; exact Nat.mod_lt _ he
  simp [hj, hsz] at hv
  simp [hm] at hu
  rw [getElem!_pos zs _ hm] at hv
  subst hv; subst hu; exact hru

def eBslV (es n : Nat) (zero : AV) (parts : List (Nat × AV)) : Option AV :=
  match eBsl es n (List.replicate n zero) parts with
  | some els => if els.all (fun el => el.cells.all AV.flat) = true then some (.sl .full es els) else none
  | none => none

theorem bsl_ok (h : Inv K G σ w) {T e : TypeId} {es n : Nat} {zero : AV} (hT : K.P.underlying T = some (.slice e)) (hes : szOf K.P e = some es) (hz : zeroOf K.P e = some zero.cells) (hzl : zero.cells.length = es)
    (hn : n * es ≤ 16777216) {parts : List (Nat × AV)} {vparts : Array (Nat × Value)} (hl : parts.length = vparts.toList.length)
    (hp : ∀ (j : Nat) p q, parts[j]? = some p → vparts.toList[j]? = some q → p.1 = q.1 ∧ Rep G p.2 q.2) {v : AV}
    (he : eBslV es n zero parts = some v) : SemOK K G w (Instr.buildSlice T n vparts) v σ := by
  unfold eBslV at he
  split at he
  · rename_i els hb
    split at he
    · rename_i hfl
      cases he
      obtain ⟨z, h1, h2⟩ := zeroOf_run hz
      obtain ⟨k1, k2⟩ := vsToAV_rep G h2
      obtain ⟨m1, m2, m3⟩ := bsl_fill (by simp) (fun el hel => by rw [List.eq_of_mem_replicate hel]; exact hzl) hb
      have zr : ∃ zs : Array Value, RepL G ((List.replicate n zero).flatMap AV.cells) ((Array.range (n * es)).map (zs[· % zs.size]!)).toList ∧
          (if n * es = 0 then (pure #[] : Sem (Array Value)) else do pure (← zeroValue e).cells).run K.P w = .ok zs w := by
        by_cases h0 : n * es = 0
        · refine ⟨#[], ?_, by simp [h0]⟩
          have : (List.replicate n zero).flatMap AV.cells = [] := by
            apply List.eq_nil_of_length_eq_zero
            rw [flat_length (es := es) fun el hel => by rw [List.eq_of_mem_replicate hel]; exact hzl]; simpa using h0
          rw [this, h0]; simp [RepL]
        · exact ⟨z.cells, zeros_rep k1 hzl, by simp [h0, h1]⟩
      obtain ⟨zs, z1, z2⟩ := zr
      obtain ⟨vs', f1, f2⟩ := fill_ok (place := fun i => some (i * es, es)) (parts := parts.map fun p => (p.1 * es, es, p.2)) (by rw [List.length_map]; exact hl) (fun j p q hp' hq => by
        rw [List.getElem?_map] at hp'
        cases hpj : parts[j]? with
        | none => simp [hpj] at hp'
        | some p0 =>
          simp [hpj] at hp'
          subst hp'
          obtain ⟨n1, n2⟩ := hp j p0 q hpj hq
          exact ⟨by rw [n1], n2⟩) z1 m1
      have hf : ∀ c ∈ els.flatMap AV.cells, c.flat = true := fun c hc => by
        obtain ⟨el, hel, hc⟩ := List.mem_flatMap.1 hc
        exact List.all_eq_true.1 (List.all_eq_true.1 hfl el hel) c hc
      obtain ⟨G', x1, x2, x3⟩ := newSlice h e (es := es) (els := els) (vs := vs') (cap := n) [] m3 (by simpa using f2) (by simpa using hf) (by omega) .full (by simp [OwnRep, m2])
      refine ⟨_, _, G', ?_, x1, by rw [m2] at x2; exact x2, x3⟩
      have hn' : ¬ (16777216 < n * es) := by omega
      simp only [Instr.buildSlice, Sem.run_bind, run_underlying hT, Result.andThen_ok, szOf_run hes]
      simp only [show (2 : Nat) ^ 24 = 16777216 from rfl, gt_iff_lt, hn', if_false]
      by_cases h0 : n * es = 0
      · rw [if_pos h0] at z2 ⊢
        have e0 : zs = #[] := by simp only [Sem.run_pure] at z2; exact (Result.ok.inj z2).1.symm
        subst e0
        simp only [Sem.run_bind, Sem.run_pure, Result.andThen_ok, f1]
        simp [newRow]
      · rw [if_neg h0] at z2 ⊢
        simp only [Sem.run_bind, Sem.run_pure, h1, Result.andThen_ok] at z2 ⊢
        have e0 : zs = z.cells := (Result.ok.inj z2).1.symm
        subst e0
        simp only [f1]
        simp [newRow]
    · cases he
  · cases he

end
end Go.Av
