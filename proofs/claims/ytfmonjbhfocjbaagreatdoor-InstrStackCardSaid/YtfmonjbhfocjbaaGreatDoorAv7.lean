/- Appending. -/
import Derived.Test.YtfmonjbhfocjbaaGreatDoorAv6
namespace Go.Av
open Go Go.RowKit

section
variable {K : Cfg} {G : Ghost} {σ : Store} {w : World}

/-- what the second argument of an append may be -/
def appTy (P : Program) (T : TypeId) : Bool :=
  match P.underlying T with
  | some (.slice _) => true
  | some .string => true
  | _ => false

section
variable {P : Program} {T T2 e : TypeId} {es by' : Nat} {zero : List AV}
theorem run_app_room (ht : P.underlying T = some (.slice e)) (h2 : appTy P T2 = true) (hes : szOf P e = some es) {a : Addr} {sLen sCap n : Nat} {x : Value} {news : Array Value} {w w' : World}
    (hl : ∀ w, (Builtin.lenOf x).run P w = .ok n w) (hn : (Builtin.firstCells es n x).run P w = .ok news w) (hroom : sLen + n ≤ sCap)
    (hst : (storeCells (a.add (sLen * es)) news.toList).run P w = .ok () w') (ty : TypeId) :
    (Builtin.append_ #[T, T2] ty #[.slice (some a) sLen sCap, x]).run P w = .ok (.slice (some a) (sLen + n) sCap) w' := by
  unfold appTy at h2
  split at h2
  · rename_i e2 hu
    simp [Builtin.append_, run_underlying ht, run_underlying hu, szOf_run hes, hl, hroom, hn, hst]
  · rename_i hu
    simp [Builtin.append_, run_underlying ht, run_underlying hu, szOf_run hes, hl, hroom, hn, hst]
  · cases h2

theorem run_app_grow (ht : P.underlying T = some (.slice e)) (h2 : appTy P T2 = true) (hes : szOf P e = some es) (hby : byOf P e = some by') (hz : zeroOf P e = some zero)
    {s : Option Addr} {sLen sCap n : Nat} {x : Value} {news olds : Array Value} {w : World}
    (hl : ∀ w, (Builtin.lenOf x).run P w = .ok n w) (hn : ∀ w', w'.heap = w.heap → (Builtin.firstCells es n x).run P w' = .ok news w')
    (ho : ∀ w', w'.heap = w.heap → (Builtin.firstCells es sLen (.slice s sLen sCap)).run P w' = .ok olds w')
    (hg : sCap < sLen + n) (hb : (sLen + n) * (by' + 1) ≤ 140737488355328) (ty : TypeId) :
    ∃ z : Array Value, vsToAV z.toList = some zero ∧
    (Builtin.append_ #[T, T2] ty #[.slice s sLen sCap, x]).run P w = .ok (.slice (some ⟨w.heap.size, 0, none⟩) (sLen + n) (grownCap w (sLen + n) sCap e))
        (w.drew.alloc (.cells (olds ++ news ++ Builtin.zeroCells z (grownCap w (sLen + n) sCap e - (sLen + n))) e)) := by
  obtain ⟨z, hz1, hz2⟩ := zeroOf_run hz
  refine ⟨z.cells, hz2, ?_⟩
  have hn' : ¬ (sLen + n ≤ sCap) := by omega
  have hb1 : (sLen + n) * by' ≤ 140737488355328 := Nat.le_trans (Nat.mul_le_mul_left _ (Nat.le_succ _)) hb
  have hb2 : sLen + n ≤ 140737488355328 := Nat.le_trans (Nat.le_mul_of_pos_right _ (Nat.succ_pos _)) hb
  have h63 : ¬ (9223372036854775807 < ((sLen : Int) + (n : Int))) := by omega
  have h48 : ¬ (281474976710656 < Builtin.nextslicecap (sLen + n) sCap * by') := by have := growslice_fits (bytes := by') hg hb1; omega
  obtain ⟨i, hi, hi2⟩ : ∃ i, P.info? e = some i ∧ i.bytes = by' := by
    unfold byOf at hby
    cases hi : P.info? e with
    | none => simp [hi] at hby
    | some i => simp [hi] at hby; exact ⟨i, rfl, hby⟩
  have f1 := hn w.drew rfl
  have f2 := ho w.drew rfl
  have hzero : ∀ w, (zeroValue e).run P w = .ok z w := hz1
  unfold appTy at h2
  split at h2
  · rename_i e2 hu
    simp [Builtin.append_, run_underlying ht, run_underlying hu, szOf_run hes, hl, hn', f1, f2, typeInfo, hi, hi2, h63, h48, Question.forced, newRow, grownCap, hzero]
  · rename_i hu
    simp [Builtin.append_, run_underlying ht, run_underlying hu, szOf_run hes, hl, hn', f1, f2, typeInfo, hi, hi2, h63, h48, Question.forced, newRow, grownCap, hzero]
  · cases h2
end

theorem run_app_zero {P : Program} {T T2 e : TypeId} {es : Nat} (ht : P.underlying T = some (.slice e)) (h2 : appTy P T2 = true) (hes : szOf P e = some es) {s : Option Addr} {sLen sCap : Nat} {x : Value} {w : World}
    (hl : ∀ w, (Builtin.lenOf x).run P w = .ok 0 w) (hn : (Builtin.firstCells es 0 x).run P w = .ok #[] w) (hroom : sLen ≤ sCap) (ty : TypeId) :
    (Builtin.append_ #[T, T2] ty #[.slice s sLen sCap, x]).run P w = .ok (.slice s sLen sCap) w := by
  unfold appTy at h2
  split at h2
  · rename_i e2 hu
    cases s <;> simp [Builtin.append_, run_underlying ht, run_underlying hu, szOf_run hes, hl, hroom, hn, storeCells]
  · rename_i hu
    cases s <;> simp [Builtin.append_, run_underlying ht, run_underlying hu, szOf_run hes, hl, hroom, hn, storeCells]
  · cases h2

/-! ### what is appended -/
def strEls (s : ByteArray) : List AV := s.data.toList.map fun b => .int .u8 b.toNat

def newsOf (es : Nat) : AV → Option (List AV)
  | .sl _ es' els => if es = es' ∨ els = [] then some els else none
  | .str s => if es = 1 then some (strEls s) else none
  | _ => none

theorem roRow_flat {b : Nat} {es : Nat} : ∀ {els : List AV} {o : Nat}, (∀ el ∈ els, el.cells.length = es) → (∀ (i : Nat) el, els[i]? = some el → RoRow G b (o + i * es) el.cells) → RoRow G b o (els.flatMap AV.cells) := by
  intro els
  induction els with
  | nil => intro o _ _ k c hc; simp at hc
  | cons a l ih =>
    intro o hes hr k c hc
    rw [List.flatMap_cons] at hc
    by_cases hk : k < a.cells.length
    · rw [List.getElem?_append_left hk] at hc
      have := hr 0 a rfl k c hc
      simpa using this
    · rw [List.getElem?_append_right (by omega)] at hc
      have h1 := ih (o := o + es) (fun el hel => hes el (by simp [hel])) (fun i el hel => by
        have := hr (i + 1) el (by simpa using hel)
        rw [show o + es + i * es = o + (i + 1) * es by rw [Nat.add_mul]; omega]; exact this) (k - a.cells.length) c hc
      obtain ⟨v, hv⟩ := h1
      have ha := hes a (by simp)
      exact ⟨v, by rw [show o + es + (k - a.cells.length) = o + k by omega] at hv; exact hv⟩

theorem SliceRep.hesm {o : Own} {es : Nat} {els : List AV} {a : Option Addr} {len cap : Nat} (hs : SliceRep G o es els a len cap) : ∀ el ∈ els, el.cells.length = es := fun el hel => by
  obtain ⟨i, hi⟩ := List.getElem?_of_mem hel
  exact hs.hes i el hi

/-- the cells of a slice that is read as a list -/
theorem lies_slice (h : Inv K G σ w) {o : Own} {es : Nat} {els : List AV} {a : Option Addr} {len cap : Nat} (hs : SliceRep G o es els a len cap) :
    ∃ vs : List Value, RepL G (els.flatMap AV.cells) vs ∧ vs.length = len * es ∧ (∀ c ∈ els.flatMap AV.cells, c.flat = true) ∧
      ∀ w', w'.heap = w.heap → (Builtin.firstCells es len (.slice a len cap)).run K.P w' = .ok vs.toArray w' := by
  cases a with
  | none =>
    have h0 := hs.hnil rfl
    have h1 := hs.hcap
    have h2 := hs.hlen
    have h3 : els = [] := List.eq_nil_of_length_eq_zero (by omega)
    subst h3
    exact ⟨[], rfl, by simp at h2; simp [h2], fun c hc => by simp at hc, fun w' _ => by simp [Builtin.firstCells]⟩
  | some ad =>
    by_cases hc0 : cap = 0
    · have h1 := hs.hcap
      have h2 := hs.hlen
      have h3 : els = [] := List.eq_nil_of_length_eq_zero (by omega)
      have h4 : len = 0 := by omega
      subst h3
      exact ⟨[], rfl, by simp [h4], fun c hc => by simp at hc, fun w' _ => run_firstCells_some w' es len _ len cap [] (by simp [h4]) fun j v hv => by simp at hv⟩
    have hsp := hs.hspot ad rfl (by omega)
    obtain ⟨b, of, sp⟩ := ad
    simp only at hsp; subst hsp
    obtain ⟨vs, h1, h2, h3⟩ := lies_ro h _ b of (roRow_flat hs.hesm (fun i el hel => hs.hrow _ rfl i el hel))
    have hlen : vs.length = len * es := by rw [← h1.length, flat_length hs.hesm, hs.hlen]
    refine ⟨vs, h1, hlen, h3, fun w' hw' => run_firstCells_some w' es len _ len cap vs hlen fun j v hv => ?_⟩
    rw [add_eq]
    have := h2 j v hv
    simpa only [World.cell?, hw'] using this

theorem strEls_rep (s : ByteArray) : RepL G (strEls s) (s.data.map fun b => Value.int .u8 b.toNat).toList := by
  refine RepL.of_get (by simp [strEls]) fun i c v hc hv => ?_
  simp only [strEls, List.getElem?_map] at hc
  simp only [Array.toList_map, List.getElem?_map] at hv
  cases hb : s.data.toList[i]? with
  | none => simp [hb] at hc
  | some b => simp [hb] at hc hv; subst hc; subst hv; rfl

theorem flat_one {els : List AV} (h : ∀ el ∈ els, el.flat = true) : els.flatMap AV.cells = els := by
  induction els with
  | nil => rfl
  | cons a l ih =>
    have ha := h a (by simp)
    have : a.cells = [a] := by cases a <;> first | rfl | simp [AV.flat] at ha
    rw [List.flatMap_cons, this, ih fun el hel => h el (by simp [hel])]; rfl

theorem strEls_flat (s : ByteArray) : ∀ el ∈ strEls s, el.flat = true := fun el hel => by
  simp only [strEls, List.mem_map] at hel
  obtain ⟨b, _, rfl⟩ := hel
  rfl

theorem news_ok (h : Inv K G σ w) {es : Nat} {y : AV} {vy : Value} (hy : Rep G y vy) {ys : List AV} (he : newsOf es y = some ys) :
    ∃ vs : Array Value, RepL G (ys.flatMap AV.cells) vs.toList ∧ (∀ el ∈ ys, el.cells.length = es) ∧ (∀ c ∈ ys.flatMap AV.cells, c.flat = true) ∧
      (∀ w, (Builtin.lenOf vy).run K.P w = .ok ys.length w) ∧ ∀ w', w'.heap = w.heap → (Builtin.firstCells es ys.length vy).run K.P w' = .ok vs w' := by
  cases y <;> first | (simp [newsOf] at he; done) | skip
  case str s =>
    simp only [newsOf] at he
    split at he
    · rename_i h1
      subst h1
      cases he
      rw [show vy = .string s from hy]
      have hlen : (strEls s).length = s.size := by simp [strEls]
      refine ⟨s.data.map fun b => Value.int .u8 b.toNat, by rw [flat_one (strEls_flat s)]; exact strEls_rep s, fun el hel => ?_, by rw [flat_one (strEls_flat s)]; exact strEls_flat s, fun w => by simp [Builtin.lenOf, hlen], fun w' _ => ?_⟩
      · have := strEls_flat s el hel
        cases el <;> first | rfl | simp [AV.flat] at this
      · skip
        simp [Builtin.firstCells, hlen]
    · cases he
  case sl o es' els =>
    simp only [newsOf] at he
    split at he
    · rename_i h1
      injection he with he
      subst he
      obtain ⟨a, len, cap, rfl, hs⟩ := hy
      by_cases e0 : es = es'
      · subst e0
        obtain ⟨vs, k1, k2, k3, k4⟩ := lies_slice h hs
        refine ⟨vs.toArray, by simpa using k1, hs.hesm, k3, fun w => by simp [Builtin.lenOf, hs.hlen], fun w' hw' => by rw [← hs.hlen]; exact k4 w' hw'⟩
      · have h2 : els = [] := by rcases h1 with h1 | h1; · exact absurd h1 e0
                                 · exact h1
        subst h2
        have hl : len = 0 := hs.hlen
        subst hl
        refine ⟨#[], rfl, fun el hel => by simp at hel, fun c hc => by simp at hc, fun w => by simp [Builtin.lenOf], fun w' _ => ?_⟩
        cases a with
        | none => simp [Builtin.firstCells]
        | some ad => simp [Builtin.firstCells, loadCells, loadCellsFrom]
    · cases he

def appBound (n by' : Nat) : Bool := decide (n * (by' + 1) ≤ 140737488355328)

def eApp (σ : Store) (ty : TypeId) (es by' : Nat) (x y : AV) : Option (AV × Store) :=
  match x, newsOf es y with
  | .sl o es' els, some ys =>
    match ys with
    | [] => some (.sl o es' els, σ)
    | _ :: _ =>
      if appBound (els.length + ys.length) by' = true ∧ (es = es' ∨ els = []) then
        match o with
        | .nil => some (.sl (.tok σ.length) es (els ++ ys), σ ++ [.tok ty (els.length + ys.length)])
        | .full => some (.sl (.tok σ.length) es (els ++ ys), σ ++ [.tok ty (els.length + ys.length)])
        | .tok t => match σ[t]? with
          | some (.tok ty' top) => if top = els.length ∧ es = es' ∧ ty' = ty then some (.sl (.tok t) es (els ++ ys), σ.set t (.tok ty (els.length + ys.length))) else none
          | _ => none
        | .any => none
      else none
  | _, _ => none

theorem zeros_vals {z : Array Value} {zero : List AV} (h : vsToAV z.toList = some zero) (n : Nat) :
    ∃ cs, RepL G cs (Builtin.zeroCells z n).toList ∧ ∀ c ∈ cs, c.flat = true := by
  have key : ∀ l : List Value, (∀ v ∈ l, ∃ c, Rep G c v ∧ c.flat = true) → ∃ cs, RepL G cs l ∧ ∀ c ∈ cs, c.flat = true := by
    intro l
    induction l with
    | nil => exact fun _ => ⟨[], rfl, fun c hc => by simp at hc⟩
    | cons v l ih =>
      intro hv
      obtain ⟨c, h1, h2⟩ := hv v (by simp)
      obtain ⟨cs, h3, h4⟩ := ih fun u hu => hv u (by simp [hu])
      refine ⟨c :: cs, ⟨v, l, rfl, h1, h3⟩, fun d hd => ?_⟩
      rcases List.mem_cons.1 hd with rfl | hd
      · exact h2
      · exact h4 d hd
  obtain ⟨k1, k2⟩ := vsToAV_rep G h
  refine key _ fun v hv => ?_
  have hz : ∃ i, i < z.size ∧ v = z[i]! := by
    simp only [Builtin.zeroCells, Array.toList_map, List.mem_map, Array.toList_range, List.mem_range] at hv
    obtain ⟨i, hi, rfl⟩ := hv
    have : 0 < z.size := by rcases Nat.eq_zero_or_pos z.size with h | h; · rw [h] at hi; simp at hi
                            · exact h
    exact ⟨i % z.size, Nat.mod_lt _ this, rfl⟩
  obtain ⟨i, hi, rfl⟩ := hz
  rw [getElem!_pos z i hi]
  obtain ⟨c, hc, hr⟩ := k1.get' i z[i] (by simp)
  exact ⟨c, hr, k2 c (List.mem_of_getElem? hc)⟩

/-- a token for a new row -/
theorem newTok (h : Inv K G σ w) (ty : TypeId) {es : Nat} {els : List AV} {vs rest : Array Value} {cap : Nat} (hes : ∀ el ∈ els, el.cells.length = es)
    (hr : RepL G (els.flatMap AV.cells) vs.toList) (hf : ∀ c ∈ els.flatMap AV.cells, c.flat = true) (hcap : els.length ≤ cap) (hmax : cap ≤ maxLen) (hsz : (vs ++ rest).size = cap * es) :
    ∃ G', Ext G G' ∧ Rep G' (.sl (.tok σ.length) es els) (.slice (some ⟨w.heap.size, 0, none⟩) els.length cap) ∧ Inv K G' (σ ++ [.tok ty els.length]) (w.alloc (.cells (vs ++ rest) ty)) := by
  have hx := G.addObj_ext (.tok w.heap.size cap es els.length)
  have hi := h.allocObj (g := .tok w.heap.size cap es els.length) (a := .tok ty els.length) (.cells (vs ++ rest) ty) ⟨h.base, rfl, hcap, hmax, vs ++ rest, (0, 0), heap_alloc_new w _, hsz, Nat.zero_le _⟩ fun x hx => hx
  have hlen : vs.size = els.length * es := by have := hr.length; rw [flat_length hes] at this; simpa using this.symm
  have hi2 := hi.addRow (b := w.heap.size) (o := 0) (cs := els.flatMap AV.cells) (vs := vs.toList) (hr.mono hx) hf (fun k v hv => by
    rw [World.cell?_alloc_new]
    have : k < vs.size := by have := (List.getElem?_eq_some_iff.1 hv).1; simpa using this
    simp at hv ⊢
    rw [Array.getElem?_append_left this]; exact hv) (fun i g hg k hk hh => by
    rcases getElem?_snoc hg with hg | ⟨_, rfl⟩
    · have := (h.owned_lt hg _ (hides_owns hh)).2; omega
    · have h2 := hh.2; rw [flat_length hes] at hk; omega)
  have hx2 := (G.addObj (.tok w.heap.size cap es els.length)).addRow_ext w.heap.size 0 (els.flatMap AV.cells) vs.toList
  refine ⟨_, hx.trans hx2, ⟨_, _, _, rfl, ?_⟩, hi2⟩
  exact {
    hlen := rfl
    hcap := hcap
    hnil := fun e => by cases e
    hes := fun i el hel => hes el (List.mem_of_getElem? hel)
    hspot := fun x e _ => by cases e; rfl
    hrow := fun x e i el hel k c hc => by
      cases e
      have h1 := flat_cells hes i el hel k c hc
      have h2 := Ghost.addRow_row (G.addObj (.tok w.heap.size cap es els.length)) w.heap.size 0 (hr.mono hx) (i * es + k) c h1
      simpa [Nat.add_assoc] using h2
    hown := ⟨w.heap.size, cap, els.length, by rw [← h.len]; exact G.addObj_new _, Nat.le_refl _, fun _ => ⟨rfl, rfl⟩⟩ }

/-- a token moves to a new row -/
theorem moveTok (h : Inv K G σ w) (ty : TypeId) {t b0 c0 top es : Nat} {els : List AV} {vs rest : Array Value} {cap : Nat} (hg : G.obj[t]? = some (.tok b0 c0 es top)) (htop : top < els.length) (hes : ∀ el ∈ els, el.cells.length = es)
    (hr : RepL G (els.flatMap AV.cells) vs.toList) (hf : ∀ c ∈ els.flatMap AV.cells, c.flat = true) (hcap : els.length ≤ cap) (hmax : cap ≤ maxLen) (hsz : (vs ++ rest).size = cap * es) :
    ∃ G', Ext G G' ∧ Rep G' (.sl (.tok t) es els) (.slice (some ⟨w.heap.size, 0, none⟩) els.length cap) ∧ Inv K G' (σ.set t (.tok ty els.length)) (w.alloc (.cells (vs ++ rest) ty)) := by
  have h1 : Inv K G σ (w.alloc (.cells (vs ++ rest) ty)) := h.keep ((Below.refl _ _).alloc (Nat.le_refl _) _)
  have hx := Ghost.setObj_ext (g' := .tok w.heap.size cap es els.length) hg (.tok htop)
  have hi := h1.changeObj (a := .tok ty els.length) (w' := w.alloc (.cells (vs ++ rest) ty)) hg (.tok (b' := w.heap.size) (c' := cap) htop) (fun _ _ _ => rfl) rfl rfl rfl (Nat.le_refl _) (fun b o v c hro _ => (h1.ro b o v c hro).1)
    ⟨h.base, rfl, hcap, hmax, vs ++ rest, (0, 0), heap_alloc_new w _, hsz, Nat.zero_le _⟩ (fun x hx hf => by
      have := (Array.getElem?_eq_some_iff.1 (h.fx x hf).2.1).1
      have : x = w.heap.size := hx
      omega) (fun x hx j gj _ hj ho => by
      have := (h.owned_lt hj x ho).2
      have : x = w.heap.size := hx
      omega) (fun x o v c hh hro => by
      have h2 := cell_lt (h.ro x o v c hro).1
      have : x = w.heap.size := hh.1
      omega)
  have hlen : vs.size = els.length * es := by have := hr.length; rw [flat_length hes] at this; simpa using this.symm
  have hi2 := hi.addRow (b := w.heap.size) (o := 0) (cs := els.flatMap AV.cells) (vs := vs.toList) (hr.mono hx) hf (fun k v hv => by
    rw [World.cell?_alloc_new]
    have : k < vs.size := by have := (List.getElem?_eq_some_iff.1 hv).1; simpa using this
    simp at hv ⊢
    rw [Array.getElem?_append_left this]; exact hv) (fun i g hgi k hk hh => by
    simp only [Ghost.setObj, List.getElem?_set] at hgi
    by_cases e : t = i
    · subst e
      have hlt := (List.getElem?_eq_some_iff.1 hg).1
      simp [hlt] at hgi
      subst hgi
      have h2 := hh.2; rw [flat_length hes] at hk; omega
    · simp [e] at hgi
      have := (h.owned_lt hgi _ (hides_owns hh)).2; omega)
  have hx2 := (G.setObj t (.tok w.heap.size cap es els.length)).addRow_ext w.heap.size 0 (els.flatMap AV.cells) vs.toList
  refine ⟨_, hx.trans hx2, ⟨_, _, _, rfl, ?_⟩, hi2⟩
  exact {
    hlen := rfl
    hcap := hcap
    hnil := fun e => by cases e
    hes := fun i el hel => hes el (List.mem_of_getElem? hel)
    hspot := fun x e _ => by cases e; rfl
    hrow := fun x e i el hel k c hc => by
      cases e
      have h1 := flat_cells hes i el hel k c hc
      have h2 := Ghost.addRow_row (G.setObj t (.tok w.heap.size cap es els.length)) w.heap.size 0 (hr.mono hx) (i * es + k) c h1
      simpa [Nat.add_assoc] using h2
    hown := ⟨w.heap.size, cap, els.length, Ghost.setObj_same G hg, Nat.le_refl _, fun _ => ⟨rfl, rfl⟩⟩ }

theorem foldl_set_other (off : Nat) : ∀ (us : List Value) (s : Nat) (vs : Array Value) (j : Nat), j < off + s ∨ off + s + us.length ≤ j →
    ((us.zipIdx s).foldl (fun (a : Array Value) (p : Value × Nat) => a.setIfInBounds (off + p.2) p.1) vs)[j]? = vs[j]? := by
  intro us
  induction us with
  | nil => intro s vs j _; rfl
  | cons u us ih =>
    intro s vs j hj
    simp only [List.length_cons] at hj
    rw [List.zipIdx_cons, List.foldl_cons, ih (s + 1) _ j (by omega)]
    simp only
    rw [Array.getElem?_setIfInBounds]
    rw [if_neg (by omega)]

theorem foldl_set_in (off : Nat) : ∀ (us : List Value) (s : Nat) (vs : Array Value) (k : Nat) (v : Value), us[k]? = some v → off + s + us.length ≤ vs.size →
    ((us.zipIdx s).foldl (fun (a : Array Value) (p : Value × Nat) => a.setIfInBounds (off + p.2) p.1) vs)[off + s + k]? = some v := by
  intro us
  induction us with
  | nil => intro s vs k v hv; simp at hv
  | cons u us ih =>
    intro s vs k v hv hl
    simp only [List.length_cons] at hl
    rw [List.zipIdx_cons, List.foldl_cons]
    cases k with
    | zero =>
      simp at hv
      subst hv
      rw [foldl_set_other off us (s + 1) _ _ (by omega)]
      simp only [Nat.add_zero]
      rw [Array.getElem?_setIfInBounds]
      simp; omega
    | succ k =>
      have := ih (s + 1) (vs.setIfInBounds (off + s) u) k v (by simpa using hv) (by simp; omega)
      rw [show off + s + (k + 1) = off + (s + 1) + k by omega]
      exact this

/-- a token's row has room -/
theorem growTok (h : Inv K G σ w) {ty : TypeId} {t b c es top : Nat} {ys : List AV} {news : Array Value} (hg : G.obj[t]? = some (.tok b c es top)) (hσ : σ[t]? = some (.tok ty top)) (hys : 0 < ys.length) (hes : ∀ el ∈ ys, el.cells.length = es)
    (hr : RepL G (ys.flatMap AV.cells) news.toList) (hf : ∀ c ∈ ys.flatMap AV.cells, c.flat = true) (hroom : top + ys.length ≤ c) :
    ∃ w' G', (storeCells ⟨b, top * es, none⟩ news.toList).run K.P w = .ok () w' ∧ Ext G G' ∧ RoRow G' b (top * es) (ys.flatMap AV.cells) ∧ G'.obj[t]? = some (.tok b c es (top + ys.length)) ∧
      Inv K G' (σ.set t (.tok ty (top + ys.length))) w' := by
  obtain ⟨hB, _, hcap, hmax, vs, fz, hb, hsz, hfz⟩ := h.obj t _ _ hg hσ
  have hlen : news.size = ys.length * es := by have := hr.length; rw [flat_length hes] at this; simpa using this.symm
  have hone : ∀ u ∈ news.toList, u.oneCell' = true := fun u hu => by
    obtain ⟨j, hj⟩ := List.getElem?_of_mem hu
    obtain ⟨c', hc, hrc⟩ := hr.get' j u hj
    exact (hrc.one (hf c' (List.mem_of_getElem? hc))).1
  have hfit : top * es + 0 + news.toList.length ≤ vs.size := by
    rw [hsz]; simp only [Array.length_toList, hlen]
    have := Nat.mul_le_mul_right es hroom; rw [Nat.add_mul] at this; omega
  obtain ⟨w', vs', k1, k2, k3, k4, k5, k6, k7, k8⟩ := run_storeCells_block K.P b (top * es) ty fz news.toList 0 vs w hb (by omega) hfit hone
  simp only [Nat.add_zero] at k8
  have hold : ∀ j, j < top * es → vs'[j]? = vs[j]? := fun j hj => by
    have h1 := foldl_set_other (top * es) news.toList 0 vs j (by omega)
    rw [← h1, ← Array.getElem?_toList, k8, Array.getElem?_toList]
  have hnew : ∀ (k : Nat) v, news.toList[k]? = some v → vs'[top * es + k]? = some v := fun k v hv => by
    have h1 := foldl_set_in (top * es) news.toList 0 vs k v hv hfit
    rw [← Array.getElem?_toList, k8, Array.getElem?_toList]
    simpa using h1
  have hsz' : vs'.size = vs.size := by
    have h1 : vs'.toList.length = _ := congrArg List.length k8
    simp only [Array.length_toList] at h1
    rw [h1]
    have key : ∀ (l : List (Value × Nat)) (a : Array Value), (l.foldl (fun (a : Array Value) (p : Value × Nat) => a.setIfInBounds (top * es + p.2) p.1) a).size = a.size := by
      intro l
      induction l with
      | nil => intro a; rfl
      | cons p l ih => intro a; rw [List.foldl_cons, ih]; simp
    exact key _ _
  have hx := Ghost.setObj_ext (g' := .tok b c es (top + ys.length)) hg (.tok (by omega))
  have hi := h.changeObj (a := .tok ty (top + ys.length)) (w' := w') hg (g' := .tok b c es (top + ys.length)) (.tok (by omega)) (fun k hk ho => k3 k ho) k4 k5 k6 (by omega) (fun b' o v c' hro ho => by
      have ho : b' = b := ho
      subst ho
      have h1 := (h.ro b' o v c' hro).1
      have h2 : ¬ top * es ≤ o := fun hle => h.hid t _ hg b' o v c' ⟨rfl, hle⟩ hro
      simp only [World.cell?, k2]
      simp only [World.cell?, hb] at h1
      rw [hold o (by omega)]; exact h1)
    ⟨hB, rfl, hroom, hmax, vs', fz, k2, by rw [hsz', hsz], by have := Nat.mul_le_mul_right es (Nat.le_add_right top ys.length); omega⟩ (fun x hx hf => (h.fx x hf).2.2 t _ hg hx) (fun x hx j gj hj hgj ho => by
      exact hj (h.sep j t gj _ x hgj hg ho hx)) (fun x o v c' hh hro => by
      refine h.hid t _ hg x o v c' ⟨hh.1, ?_⟩ hro
      have := Nat.mul_le_mul_right es (Nat.le_add_right top ys.length)
      exact Nat.le_trans this hh.2)
  have hi2 := hi.addRow (b := b) (o := top * es) (cs := ys.flatMap AV.cells) (vs := news.toList) (hr.mono hx) hf (fun k v hv => by
    simp only [World.cell?, k2]
    simpa using hnew k v hv) (fun i g hgi k hk hh => by
    simp only [Ghost.setObj, List.getElem?_set] at hgi
    by_cases e : t = i
    · subst e
      have hlt := (List.getElem?_eq_some_iff.1 hg).1
      simp [hlt] at hgi
      subst hgi
      have h2 := hh.2; rw [flat_length hes] at hk
      rw [Nat.add_mul] at h2; omega
    · simp [e] at hgi
      exact e (h.sep t i _ g b hg hgi rfl (hides_owns hh)))
  exact ⟨w', _, k1, hx.trans (Ghost.addRow_ext _ b (top * es) (ys.flatMap AV.cells) news.toList), Ghost.addRow_row _ b (top * es) (hr.mono hx), Ghost.setObj_same G hg, hi2⟩

theorem flatMap_snoc_cells (a b : List AV) : (a ++ b).flatMap AV.cells = a.flatMap AV.cells ++ b.flatMap AV.cells := by simp

theorem grownCap_fits (w : World) {need old : Nat} (e : TypeId) (h : need ≤ maxLen) : need ≤ grownCap w need old e ∧ grownCap w need old e ≤ maxLen :=
  ⟨grownCap_ge w need old e, grownCap_le_maxLen w need old e h⟩

theorem app_ok (h : Inv K G σ w) {T T2 e : TypeId} {es by' : Nat} {zero : List AV} (ht : K.P.underlying T = some (.slice e)) (h2 : appTy K.P T2 = true) (hes : szOf K.P e = some es) (hby : byOf K.P e = some by')
    (hz : zeroOf K.P e = some zero) (hzl : zero.length = es) {x y v : AV} {σ' : Store} {vx vy : Value} (hx : Rep G x vx) (hy : Rep G y vy) (he : eApp σ e es by' x y = some (v, σ')) (ty : TypeId) :
    SemOK K G w (Builtin.append_ #[T, T2] ty #[vx, vy]) v σ' := by
  unfold eApp at he
  split at he
  case h_2 => cases he
  rename_i o es' els ys hnews
  obtain ⟨news, n1, n2, n3, n4, n5⟩ := news_ok h hy hnews
  obtain ⟨a, len, cap, rfl, hs⟩ := hx
  have hlen := hs.hlen
  have hcap := hs.hcap
  split at he
  · cases he
    have n6 := n5 w rfl
    have hnil : news = #[] := by
      have := n1.length
      simp at this
      exact Array.size_eq_zero_iff.1 this.symm
    subst hnil
    exact SemOK.pure' h (run_app_zero ht h2 hes (fun w => n4 w) n6 hcap ty) ⟨a, len, cap, rfl, hs⟩
  · rename_i y0 ys0
    generalize hys : y0 :: ys0 = ys at *
    have hpos : 0 < ys.length := by rw [← hys]; simp
    split at he
    · rename_i hc
      obtain ⟨hb, hee⟩ := hc
      simp only [appBound, decide_eq_true_eq] at hb
      have hb2 : els.length + ys.length ≤ 140737488355328 := Nat.le_trans (Nat.le_mul_of_pos_right _ (Nat.succ_pos _)) hb
      have hml : els.length + ys.length ≤ maxLen := by simp only [maxLen]; omega
      have hes' : ∀ el ∈ els, el.cells.length = es := fun el hel => by
        rcases hee with rfl | rfl
        · exact hs.hesm el hel
        · simp at hel
      have hall : ∀ el ∈ els ++ ys, el.cells.length = es := fun el hel => by
        rcases List.mem_append.1 hel with hel | hel
        · exact hes' el hel
        · exact n2 el hel
      -- the old cells
      have olds : ∃ vs : List Value, RepL G (els.flatMap AV.cells) vs ∧ vs.length = len * es ∧ (∀ c ∈ els.flatMap AV.cells, c.flat = true) ∧
          ∀ w', w'.heap = w.heap → (Builtin.firstCells es len (.slice a len cap)).run K.P w' = .ok vs.toArray w' := by
        rcases hee with rfl | rfl
        · exact lies_slice h hs
        · have h0 : len = 0 := hlen
          subst h0
          refine ⟨[], rfl, by simp, fun c hc => by simp at hc, fun w' _ => ?_⟩
          cases a with
          | none => simp [Builtin.firstCells]
          | some ad => simp [Builtin.firstCells, loadCells, loadCellsFrom]
      obtain ⟨ov, o1, o2, o3, o4⟩ := olds
      have hrep : RepL G ((els ++ ys).flatMap AV.cells) (ov.toArray ++ news).toList := by
        rw [flatMap_snoc_cells]; simpa using o1.append n1
      have hflat : ∀ c ∈ (els ++ ys).flatMap AV.cells, c.flat = true := fun c hc => by
        rw [flatMap_snoc_cells] at hc
        rcases List.mem_append.1 hc with hc | hc
        · exact o3 c hc
        · exact n3 c hc
      have hnl : news.size = ys.length * es := by have := n1.length; rw [flat_length n2] at this; simpa using this.symm
      -- growing into a new row
      have grow : cap < len + ys.length → ∃ z : Array Value, vsToAV z.toList = some zero ∧
          (Builtin.append_ #[T, T2] ty #[.slice a len cap, vy]).run K.P w = .ok (.slice (some ⟨w.heap.size, 0, none⟩) (els ++ ys).length (grownCap w (len + ys.length) cap e))
            (w.drew.alloc (.cells ((ov.toArray ++ news) ++ Builtin.zeroCells z (grownCap w (len + ys.length) cap e - (len + ys.length))) e)) ∧
          ((ov.toArray ++ news) ++ Builtin.zeroCells z (grownCap w (len + ys.length) cap e - (len + ys.length))).size = grownCap w (len + ys.length) cap e * es := by
        intro hg
        obtain ⟨z, z1, z2⟩ := run_app_grow ht h2 hes hby hz (fun w => n4 w) n5 o4 hg (by rw [hlen]; exact hb) ty
        refine ⟨z, z1, by rw [List.length_append, ← hlen]; exact z2, ?_⟩
        have hzs : z.size = es := by have := (vsToAV_rep G z1).1.length; simp at this; omega
        have hge := grownCap_ge w (len + ys.length) cap e
        rw [Array.size_append, Array.size_append, size_zeroCells, hzs, hnl, List.size_toArray, o2, ← Nat.add_mul, ← Nat.add_mul]
        congr 1; omega
      have hgc := grownCap_fits w (need := len + ys.length) (old := cap) e (by rw [hlen]; exact hml)
      have hd : Inv K G σ w.drew := h.keep ((Below.refl _ _).drew)
      have fresh : cap = len → SemOK K G w (Builtin.append_ #[T, T2] ty #[.slice a len cap, vy]) (.sl (.tok σ.length) es (els ++ ys)) (σ ++ [.tok e (els.length + ys.length)]) := by
        intro hcl
        obtain ⟨z, z1, z2, z3⟩ := grow (by omega)
        obtain ⟨G', g1, g2, g3⟩ := newTok hd e (es := es) (els := els ++ ys) (vs := ov.toArray ++ news) (rest := Builtin.zeroCells z (grownCap w (len + ys.length) cap e - (len + ys.length)))
          (cap := grownCap w (len + ys.length) cap e) hall hrep hflat (by rw [List.length_append, ← hlen]; exact hgc.1) hgc.2 z3
        rw [List.length_append] at g3
        exact ⟨_, _, G', z2, g1, g2, g3⟩
      cases o with
      | nil =>
        cases he
        exact fresh (by have h0 : a = none := hs.hown; have := hs.hnil h0; omega)
      | full =>
        cases he
        exact fresh hs.hown
      | any => cases he
      | tok t =>
        simp only at he
        split at he
        · rename_i ty' top ht'
          split at he
          · rename_i htop
            obtain ⟨htop, hee', hty⟩ := htop
            rw [hty] at ht'
            cases he
            obtain ⟨b, c, top', hg, hle, heq⟩ := hs.hown
            have hok := h.obj t _ _ hg ht'
            have htt : top' = top := hok.2.1
            subst htt
            obtain ⟨ha, hc⟩ := heq (by omega)
            subst ha; subst hc
            subst hee'
            by_cases hroom : len + ys.length ≤ cap
            · obtain ⟨w', G', s1, s2, s3, s4, s5⟩ := growTok h hg ht' hpos n2 n1 n3 (by omega)
              refine ⟨_, w', G', run_app_room ht h2 hes (w' := w') (fun w => n4 w) (n5 w rfl) hroom (by rw [add_eq, Nat.zero_add, hlen, ← htop]; exact s1) ty, s2, ⟨_, _, _, rfl, ?_⟩, by rw [← htop]; exact s5⟩
              have hm := hs.mono s2
              exact {
                hlen := by rw [List.length_append, hlen]
                hcap := hroom
                hnil := fun e => by cases e
                hes := fun i el hel => hall el (List.mem_of_getElem? hel)
                hspot := fun x e _ => by cases e; rfl
                hrow := fun x e i el hel => by
                  cases e
                  by_cases hi : i < els.length
                  · rw [List.getElem?_append_left hi] at hel
                    exact hm.hrow _ rfl i el hel
                  · rw [List.getElem?_append_right (by omega)] at hel
                    intro k c hc
                    have f1 := flat_cells n2 _ el hel k c hc
                    obtain ⟨u, hu⟩ := s3 _ c f1
                    refine ⟨u, ?_⟩
                    rw [show 0 + i * es + k = top' * es + ((i - els.length) * es + k) by
                      rw [htop]
                      have : i * es = els.length * es + (i - els.length) * es := by rw [← Nat.add_mul]; congr 1; omega
                      omega]
                    exact hu
                hown := ⟨b, cap, top' + ys.length, s4, by omega, fun _ => ⟨rfl, rfl⟩⟩ }
            · obtain ⟨z, z1, z2, z3⟩ := grow (by omega)
              obtain ⟨G', g1, g2, g3⟩ := moveTok hd e (es := es) (els := els ++ ys) (vs := ov.toArray ++ news) (rest := Builtin.zeroCells z (grownCap w (len + ys.length) cap e - (len + ys.length)))
                (cap := grownCap w (len + ys.length) cap e) hg (by rw [List.length_append]; omega) hall hrep hflat (by rw [List.length_append, ← hlen]; exact hgc.1) hgc.2 z3
              rw [List.length_append] at g3
              exact ⟨_, _, G', z2, g1, g2, g3⟩
          · cases he
        · cases he
    · cases he

end
end Go.Av
