/- Arguments that are read as data are read-only rows. -/
import Derived.Test.YtfmonjbhfocjbaaGreatDoorAv18
import Derived.Test.YtfmonjbhfocjbaaGreatDoorAv3
import Derived.OpenShut
import Derived.ChangeSame
import Derived.Carry
namespace Go.Av
open Go Go.RowKit Go.ChangeShapes

def isAgg (P : Program) (t : TypeId) : Bool :=
  match P.underlying t with
  | some (.struct _) => true
  | some (.array _ _) => true
  | _ => false

def elV (ag : Bool) (cs : List AV) : AV := cond ag (.agg cs) (cs.headD .top)

mutual
def avD {H : Type} (P : Program) (nn : Bool) : DataW H → TypeId → List AV
  | .lit (.bool b), _ => [.bool b]
  | .lit (.int k n), _ => [.int k n]
  | .lit (.string l), _ => [.str ⟨l.toArray⟩]
  | .nil, t => (match P.underlying t with
    | some (.slice e) => [.sl (cond nn .nil .any) (P.cellsOf e) []]
    | some (.pointer _) => [.nilp]
    | _ => [.top])
  | .ptr d, t => (match P.underlying t with
    | some (.pointer e) => [.rp (avD P nn d e)]
    | _ => [.top])
  | .slice els _, t => (match P.underlying t with
    | some (.slice e) => [.sl .any (P.cellsOf e) (avEls P nn els e)]
    | _ => [.top])
  | .agg ds, t => (match P.underlying t with
    | some (.struct fs) => avFs P nn ds fs.toList
    | some (.array _ e) => avArr P nn ds e
    | _ => [.top])
  | _, _ => [.top]
def avEls {H : Type} (P : Program) (nn : Bool) : List (DataW H) → TypeId → List AV
  | [], _ => []
  | d :: r, e => elV (isAgg P e) (avD P nn d e) :: avEls P nn r e
def avFs {H : Type} (P : Program) (nn : Bool) : List (DataW H) → List Field → List AV
  | d :: r, f :: fs => avD P nn d f.type ++ avFs P nn r fs
  | _, _ => []
def avArr {H : Type} (P : Program) (nn : Bool) : List (DataW H) → TypeId → List AV
  | [], _ => []
  | d :: r, e => avD P nn d e ++ avArr P nn r e
end

def tiled (P : Program) : Nat → List Field → Nat → Bool
  | o, [], n => Nat.beq o n
  | o, f :: fs, n => Nat.beq f.offset o && tiled P (o + P.cellsOf f.type) fs n

def okT (P : Program) (L : List TypeId) (t : TypeId) : Bool :=
  match P.underlying t with
  | some .bool => true
  | some (.int _) => true
  | some .string => true
  | some (.slice e) => L.contains e && decide (0 < P.cellsOf e) && (isAgg P e || decide (P.cellsOf e = 1))
  | some (.pointer e) => L.contains e && decide (0 < P.cellsOf e)
  | some (.struct fs) => tiled P 0 fs.toList (P.cellsOf t) && fs.toList.all fun f => L.contains f.type
  | some (.array n e) => decide (P.cellsOf t = n * P.cellsOf e) && L.contains e
  | _ => false

section
variable {H : Type} {enc : TypeId × Value → H} {P : Program} {W : World} {held nn : Bool} {L : List TypeId}

/-- what is known to be read-only -/
def roG (enc : TypeId × Value → H) (P : Program) (W : World) (held nn : Bool) (L : List TypeId) : Ghost where
  ro := fun b o v c => ∃ (e : TypeId) (fuel : Nat) (cs : List Value) (x : DataW H × List MemPlace) (k o0 : Nat), e ∈ L ∧ W.cells? 0 ⟨b, o0, none⟩ (P.cellsOf e) = some cs ∧
    DataW.trod enc P W 0 (fun _ => true) held fuel e cs = some x ∧ o = o0 + k ∧ cs[k]? = some v ∧ (avD P nn x.1 e)[k]? = some c
  obj := []
  fx := fun _ => False

theorem avEls_get (e : TypeId) : ∀ (ds : List (DataW H)) (i : Nat), (avEls P nn ds e)[i]? = (ds[i]?).map fun d => elV (isAgg P e) (avD P nn d e)
  | [], i => by simp [avEls]
  | d :: r, 0 => by simp [avEls]
  | d :: r, i + 1 => by simp [avEls, avEls_get e r i]

theorem avEls_length (e : TypeId) (ds : List (DataW H)) : (avEls P nn ds e).length = ds.length := by
  induction ds with
  | nil => rfl
  | cons d r ih => simp [avEls, ih]

theorem elV_cells {ag : Bool} {cs : List AV} {n : Nat} (hl : cs.length = n) (hf : ∀ c ∈ cs, c.flat = true) (h : ag = true ∨ n = 1) : (elV ag cs).cells = cs := by
  cases ag with
  | true => rfl
  | false =>
    have h1 : n = 1 := by cases h with | inl h => cases h | inr h => exact h
    subst h1
    match cs, hl with
    | [c], _ =>
      have := hf c (by simp)
      show AV.cells c = [c]
      cases c <;> first | rfl | simp [AV.flat] at this

/-- a row that is read as data -/
theorem roRow_of {e : TypeId} (he : e ∈ L) {b o0 fuel : Nat} {cs : List Value} {x : DataW H × List MemPlace} (hc : W.cells? 0 ⟨b, o0, none⟩ (P.cellsOf e) = some cs)
    (ht : DataW.trod enc P W 0 (fun _ => true) held fuel e cs = some x) (hl : (avD P nn x.1 e).length = cs.length) : RoRow (roG enc P W held nn L) b o0 (avD P nn x.1 e) := by
  intro k c hk
  have hlt := (List.getElem?_eq_some_iff.1 hk).1
  exact ⟨cs[k]'(by omega), e, fuel, cs, x, k, o0, he, hc, ht, rfl, List.getElem?_eq_getElem _, hk⟩

theorem addr_spot {a : Addr} {n : Nat} {cs : List Value} (h : W.cells? 0 a n = some cs) (hn : 0 < n) : a.spot = none := by
  obtain ⟨_, hl, hc⟩ := World.cells?_some h
  have h0 := hc 0 hn
  have : cs[0]? = some (cs[0]'(by omega)) := List.getElem?_eq_getElem _
  rw [this] at h0
  have h2 := World.cell?_spot h0
  simpa [Addr.add] using h2

theorem add_spot {a : Addr} {i : Nat} (hi : i = 0) (h : (a.add i).spot = none) : a.spot = none := by
  subst hi
  simpa [Addr.add] using h

theorem tiles (G : Ghost) {n total : Nat} {cs : List Value} (hlen : cs.length = total) (hind : ∀ (t : TypeId) (us : List Value) (x : DataW H × List MemPlace), t ∈ L →
      DataW.trod enc P W 0 (fun _ => true) held n t us = some x → RepL G (avD P nn x.1 t) us ∧ ∀ c ∈ avD P nn x.1 t, c.flat = true) :
    ∀ (fs : List Field) (xs : List (DataW H × List MemPlace)) (o : Nat), xs.length = fs.length →
      (∀ (i : Nat) (f : Field), fs[i]? = some f → DataW.trod enc P W 0 (fun _ => true) held n f.type ((cs.drop f.offset).take (P.cellsOf f.type)) = xs[i]?) →
      (∀ f ∈ fs, f.type ∈ L) → tiled P o fs total = true → RepL G (avFs P nn (xs.map (·.1)) fs) (cs.drop o) ∧ ∀ c ∈ avFs P nn (xs.map (·.1)) fs, c.flat = true
  | [], xs, o, hx, _, _, ht => by
    have : xs = [] := List.eq_nil_of_length_eq_zero (by simpa using hx)
    subst this
    have ho : o = total := Nat.eq_of_beq_eq_true ht
    subst ho
    refine ⟨?_, fun c hc => by simp [avFs] at hc⟩
    simp only [List.map_nil, avFs]
    rw [List.drop_eq_nil_of_le (by omega)]
    rfl
  | f :: fs, [], o, hx, _, _, ht => by simp at hx
  | f :: fs, x :: xs, o, hx, hg, hL, ht => by
    simp only [tiled, Bool.and_eq_true] at ht
    have ho : f.offset = o := Nat.eq_of_beq_eq_true ht.1
    have h0 := hg 0 f rfl
    simp only [List.getElem?_cons_zero] at h0
    obtain ⟨r1, r2⟩ := hind _ _ _ (hL f (by simp)) h0
    obtain ⟨s1, s2⟩ := tiles G hlen hind fs xs (o + P.cellsOf f.type) (by simpa using hx) (fun i g hi => by simpa using hg (i + 1) g (by simpa using hi)) (fun g hg' => hL g (by simp [hg'])) ht.2
    refine ⟨?_, fun c hc => ?_⟩
    · simp only [List.map_cons, avFs]
      have hsplit : cs.drop o = (cs.drop f.offset).take (P.cellsOf f.type) ++ cs.drop (o + P.cellsOf f.type) := by
        rw [ho, ← List.drop_drop, List.take_append_drop]
      rw [hsplit]
      exact RepL.append r1 s1
    · simp only [List.map_cons, avFs, List.mem_append] at hc
      rcases hc with hc | hc
      · exact r2 c hc
      · exact s2 c hc

theorem avArr_rep (G : Ghost) {n k : Nat} {e : TypeId} {cs : List Value} (he : e ∈ L) (hind : ∀ (t : TypeId) (us : List Value) (x : DataW H × List MemPlace), t ∈ L →
      DataW.trod enc P W 0 (fun _ => true) held n t us = some x → RepL G (avD P nn x.1 t) us ∧ ∀ c ∈ avD P nn x.1 t, c.flat = true) :
    ∀ (xs : List (DataW H × List MemPlace)) (j : Nat), cs.length = (j + xs.length) * P.cellsOf e →
      (∀ (i : Nat), i < xs.length → DataW.trod enc P W 0 (fun _ => true) held n e ((cs.drop ((j + i) * P.cellsOf e)).take (P.cellsOf e)) = xs[i]?) →
      RepL G (avArr P nn (xs.map (·.1)) e) (cs.drop (j * P.cellsOf e)) ∧ ∀ c ∈ avArr P nn (xs.map (·.1)) e, c.flat = true
  | [], j, hl, _ => by
    refine ⟨?_, fun c hc => by simp [avArr] at hc⟩
    simp only [List.map_nil, avArr]
    rw [List.drop_eq_nil_of_le (by simp at hl; omega)]
    rfl
  | x :: xs, j, hl, hg => by
    have h0 := hg 0 (by simp)
    simp only [List.getElem?_cons_zero, Nat.add_zero] at h0
    obtain ⟨r1, r2⟩ := hind _ _ _ he h0
    obtain ⟨s1, s2⟩ := avArr_rep (k := k) G he hind xs (j + 1) (by rw [hl]; simp; congr 1; omega) (fun i hi => by
      have := hg (i + 1) (by simpa using hi)
      simpa [Nat.add_assoc, Nat.add_comm 1 i] using this)
    refine ⟨?_, fun c hc => ?_⟩
    · simp only [List.map_cons, avArr]
      have hsplit : cs.drop (j * P.cellsOf e) = (cs.drop (j * P.cellsOf e)).take (P.cellsOf e) ++ cs.drop ((j + 1) * P.cellsOf e) := by
        rw [Nat.add_mul, Nat.one_mul, ← List.drop_drop, List.take_append_drop]
      rw [hsplit]
      exact RepL.append r1 s1
    · simp only [List.map_cons, avArr, List.mem_append] at hc
      rcases hc with hc | hc
      · exact r2 c hc
      · exact s2 c hc

theorem av_rep (hL : ∀ t ∈ L, okT P L t = true) : ∀ (fuel : Nat) (t : TypeId) (cs : List Value) (x : DataW H × List MemPlace), t ∈ L → DataW.trod enc P W 0 (fun _ => true) held fuel t cs = some x →
    RepL (roG enc P W held nn L) (avD P nn x.1 t) cs ∧ ∀ c ∈ avD P nn x.1 t, c.flat = true
  | 0, t, cs, x, _, h => by simp [DataW.trod] at h
  | n + 1, t, cs, x, ht, h => by
    have hok := hL t ht
    have ih := av_rep hL n
    unfold okT at hok
    split at hok <;> first | (cases hok; done) | skip
    · rename_i hu
      obtain ⟨b, rfl, rfl⟩ := DataW.trod_bool hu h
      exact ⟨⟨_, _, rfl, rfl, rfl⟩, fun c hc => by simp [avD] at hc; subst hc; rfl⟩
    · rename_i k hu
      obtain ⟨m, rfl, rfl, _⟩ := DataW.trod_int hu h
      exact ⟨⟨_, _, rfl, rfl, rfl⟩, fun c hc => by simp [avD] at hc; subst hc; rfl⟩
    · rename_i hu
      obtain ⟨s, rfl, rfl, _⟩ := DataW.trod_string hu h
      exact ⟨⟨_, _, rfl, rfl, rfl⟩, fun c hc => by simp [avD] at hc; subst hc; rfl⟩
    · rename_i e hu
      simp only [Bool.and_eq_true, List.contains_iff_mem, decide_eq_true_eq, Bool.or_eq_true] at hok
      obtain ⟨⟨he, hpos⟩, hag⟩ := hok
      rcases DataW.trod_slice hu h with ⟨rfl, rfl⟩ | ⟨a, len, cap, elems, rest, m, hm, rfl, rfl, _, hlc, hcm, hel, hget, hsp, _⟩
      · simp only [avD, hu]
        refine ⟨⟨_, _, rfl, ⟨_, _, _, rfl, ?_⟩, rfl⟩, fun c hc => by simp at hc; subst hc; rfl⟩
        exact {
          hlen := rfl
          hcap := Nat.le_refl _
          hnil := fun _ => rfl
          hes := fun i el hel => by simp at hel
          hspot := fun x hx => by cases hx
          hrow := fun x hx => by cases hx
          hown := by cases nn <;> first | trivial | rfl }
      · cases hm
        simp only [avD, hu]
        refine ⟨⟨_, _, rfl, ⟨_, _, _, rfl, ?_⟩, rfl⟩, fun c hc => by simp at hc; subst hc; rfl⟩
        have one : ∀ (i : Nat) d, elems[i]? = some d → ∃ us, W.cells? 0 (a.add (i * P.cellsOf e)) (P.cellsOf e) = some us ∧ DataW.trod enc P W 0 (fun _ => true) held n e us = some d := fun i d hd => by
          have hi := (List.getElem?_eq_some_iff.1 hd).1
          have := hget i (by omega)
          rw [hd] at this
          exact Option.bind_eq_some_iff.1 this
        have spot : 0 < cap → a.spot = none := fun hc0 => by
          rcases Nat.eq_zero_or_pos len with h0 | h0
          · have h2 := (hsp rfl).2 0 (by omega)
            have h1 := (hsp rfl).1
            rw [List.getElem?_eq_getElem (by omega)] at h2
            obtain ⟨us, h3, _⟩ := Option.bind_eq_some_iff.1 h2
            exact add_spot (by simp [h0]) (addr_spot h3 hpos)
          · obtain ⟨us, h3, _⟩ := one 0 _ (List.getElem?_eq_getElem (by omega))
            exact add_spot (by simp) (addr_spot h3 hpos)
        have cell : ∀ (d : DataW H × List MemPlace) (us : List Value) (b : Addr), W.cells? 0 b (P.cellsOf e) = some us → DataW.trod enc P W 0 (fun _ => true) held n e us = some d →
            (avD P nn d.1 e).length = P.cellsOf e ∧ us.length = P.cellsOf e ∧ (elV (isAgg P e) (avD P nn d.1 e)).cells = avD P nn d.1 e := fun d us b h1 h2 => by
          obtain ⟨k1, k2⟩ := ih e us d he h2
          have hl := k1.length
          have hl2 := (World.cells?_some h1).2.1
          exact ⟨by omega, hl2, elV_cells (n := P.cellsOf e) (by omega) k2 hag⟩
        exact {
          hlen := by rw [avEls_length, List.length_map, hel]
          hcap := hlc
          hnil := fun h => by cases h
          hes := fun i el hi => by
            rw [avEls_get, Option.map_eq_some_iff] at hi
            obtain ⟨d, hd, rfl⟩ := hi
            rw [List.getElem?_map, Option.map_eq_some_iff] at hd
            obtain ⟨d', hd', rfl⟩ := hd
            obtain ⟨us, h1, h2⟩ := one i d' hd'
            obtain ⟨c1, c2, c3⟩ := cell d' us _ h1 h2
            rw [c3, c1]
          hspot := fun x hx h0 => by cases hx; exact spot h0
          hrow := fun x hx i el hi => by
            cases hx
            rw [avEls_get, Option.map_eq_some_iff] at hi
            obtain ⟨d, hd, rfl⟩ := hi
            rw [List.getElem?_map, Option.map_eq_some_iff] at hd
            obtain ⟨d', hd', rfl⟩ := hd
            obtain ⟨us, h1, h2⟩ := one i d' hd'
            obtain ⟨c1, c2, c3⟩ := cell d' us _ h1 h2
            rw [c3]
            have hi' := (List.getElem?_eq_some_iff.1 hd').1
            have hs := spot (by omega)
            obtain ⟨b, of, sp⟩ := a
            simp only at hs
            subst hs
            rw [show (⟨b, of, none⟩ : Addr).add (i * P.cellsOf e) = ⟨b, of + i * P.cellsOf e, none⟩ by simp [add_eq]] at h1
            exact roRow_of he h1 h2 (by omega)
          hown := trivial }
    · rename_i e hu
      simp only [Bool.and_eq_true, List.contains_iff_mem, decide_eq_true_eq] at hok
      obtain ⟨he, hpos⟩ := hok
      rcases DataW.trod_pointer hu h with ⟨rfl, rfl⟩ | ⟨a, us, y, m, hm, rfl, rfl, hc, hy⟩
      · simp only [avD, hu]
        exact ⟨⟨_, _, rfl, rfl, rfl⟩, fun c hc => by simp at hc; subst hc; rfl⟩
      · cases hm
        simp only [avD, hu]
        have hs := addr_spot hc hpos
        obtain ⟨b, of, sp⟩ := a
        simp only at hs
        subst hs
        obtain ⟨k1, k2⟩ := ih e us y he hy
        exact ⟨⟨_, _, rfl, ⟨b, of, rfl, roRow_of he hc hy k1.length⟩, rfl⟩, fun c hc => by simp at hc; subst hc; rfl⟩
    · rename_i fs hu
      simp only [Bool.and_eq_true, List.all_eq_true, List.contains_iff_mem] at hok
      obtain ⟨xs, m, hm, rfl, hl, hxl, hget⟩ := DataW.trod_struct hu h
      cases hm
      simp only [avD, hu]
      have := tiles (roG enc P W held nn L) hl ih fs.toList xs 0 (by simpa using hxl) (fun i f hf => hget i f (by simpa using hf)) hok.2 hok.1
      simpa using this
    · rename_i k e hu
      simp only [Bool.and_eq_true, List.contains_iff_mem, decide_eq_true_eq] at hok
      obtain ⟨xs, m, hm, rfl, hl, hxl, hget⟩ := DataW.trod_array hu h
      cases hm
      simp only [avD, hu]
      have := avArr_rep (k := k) (roG enc P W held nn L) hok.2 ih xs 0 (by rw [hl, hok.1, hxl]; simp) (fun i hi => by simpa using hget i (by omega))
      simpa using this

/-- the world that the call finds, all of it read-only -/
theorem inv_open (hL : ∀ t ∈ L, okT P L t = true) (K : Cfg) (hP : K.P = P) (hB : K.B = W.heap.size) (hw : K.w0 = W) (hgl : ∀ n, Rep (roG enc P W held nn L) (K.gl n) (.pointer (some ⟨n, 0, none⟩))) :
    Inv K (roG enc P W held nn L) [] W where
  len := rfl
  below := by rw [hw]; exact Below.refl _ _
  base := by rw [hB]; exact Nat.le_refl _
  ro := fun b o v c ⟨e, fuel, cs, x, k, o0, he, hc, ht, ho, hv, hcv⟩ => by
    obtain ⟨h1, h2⟩ := av_rep (nn := nn) hL fuel e cs x he ht
    obtain ⟨v', hv', hr⟩ := h1.get k c hcv
    rw [hv] at hv'
    cases hv'
    refine ⟨?_, hr, h2 c (List.mem_of_getElem? hcv)⟩
    obtain ⟨_, hl, hcell⟩ := World.cells?_some hc
    have hk := (List.getElem?_eq_some_iff.1 hv).1
    have := hcell k (by omega)
    rw [hv, add_eq] at this
    rw [ho]; exact this
  obj := fun i g a hg => by simp [roG] at hg
  sep := fun i j gi gj x hg => by simp [roG] at hg
  hid := fun i g hg => by simp [roG] at hg
  gl := hgl
  fx := fun D hD => by cases hD


/-- elements of one form -/
theorem avEls_of {α : Type} {e : TypeId} {f : α → List AV} : ∀ (xs : List (DataW H)), (∀ x ∈ xs, ∃ p, avD P nn x e = f p) → ∃ ps : List α, avEls P nn xs e = ps.map (fun p => elV (isAgg P e) (f p)) ∧ ps.length = xs.length
  | [], _ => ⟨[], rfl, rfl⟩
  | x :: xs, h => by
    obtain ⟨p, hp⟩ := h x (by simp)
    obtain ⟨ps, h1, h2⟩ := avEls_of xs fun y hy => h y (by simp [hy])
    exact ⟨p :: ps, by simp [avEls, hp, h1], by simp [h2]⟩

/-- elements of a slice that is read as data -/
theorem slice_elems {t e : TypeId} {fuel : Nat} {cs : List Value} {x : DataW H × List MemPlace} (ht : P.underlying t = some (.slice e)) (h : DataW.trod enc P W 0 (fun _ => true) held fuel t cs = some x) :
    x.1 = .nil ∨ ∃ (els rest : List (DataW H)), x.1 = .slice els rest ∧ els.length ≤ maxLen ∧ ∀ d ∈ els, ∃ us m q, DataW.trod enc P W 0 (fun _ => true) held m e us = some (d, q) := by
  rcases DataW.trod_slice ht h with ⟨rfl, rfl⟩ | ⟨a, len, cap, elems, rest, m, hm, rfl, rfl, _, hlc, hcm, hel, hget, _, _⟩
  · exact .inl rfl
  · refine .inr ⟨_, _, rfl, by rw [List.length_map, hel]; omega, fun d hd => ?_⟩
    obtain ⟨y, hy, rfl⟩ := List.mem_map.1 hd
    obtain ⟨i, hi⟩ := List.getElem?_of_mem hy
    have hlt := (List.getElem?_eq_some_iff.1 hi).1
    have := hget i (by omega)
    rw [hi] at this
    obtain ⟨us, _, h2⟩ := Option.bind_eq_some_iff.1 this
    exact ⟨us, m, y.2, h2⟩

/-- an argument of a struct's type -/
theorem rep_agg {t : TypeId} {fs : Array Field} {v : Value} {r : Reach} {b0 : Nat} {G : Ghost} {cs : List AV} (ht : P.underlying t = some (.struct fs)) (hval : Value.okWide P W r b0 t v) (hr : RepL G cs v.cells.toList) : Rep G (.agg cs) v := by
  unfold Value.okWide at hval
  rw [ht] at hval
  obtain ⟨vs, rfl, _⟩ := hval
  exact ⟨vs, rfl, hr⟩


theorem all_stay (hl : laidOutB P = true) {W' : World} (hb : Below W.heap.size W W') {sp : Nat → Bool} : ∀ {ts : List TypeId} {vs : List Value} {ds : List (DataW H)} {ps : List MemPlace},
    (∀ t ∈ ts, P.readableRec t = true ∧ t < P.types.size) → DataW.TrodAll enc P W 0 (fun _ => true) true ts vs ds ps → (∀ p ∈ ps, p.block < W.heap.size) → (∀ p ∈ ps, sp p.block = true) → DataW.TrodAll enc P W' 0 sp true ts vs ds ps
  | [], vs, ds, ps, _, h, _, _ => by
    obtain ⟨rfl, rfl, rfl⟩ := trodAll_nil h
    exact trodAll_mk0
  | t :: ts, vs, ds, ps, hr, h, hlt, hs => by
    obtain ⟨v, vs', d, ds', p, q, rfl, rfl, rfl, h1, h2⟩ := trodAll_cons h
    have ht := hr t (by simp)
    refine ⟨p, q, WideElems.Trod_stays hl ht.1 ht.2 h1 (fun x hx => hb.same (hlt x (by simp [hx]))) (fun x hx => hs x (by simp [hx])),
      all_stay hl hb (fun u hu => hr u (by simp [hu])) h2 (fun x hx => hlt x (by simp [hx])) (fun x hx => hs x (by simp [hx])), rfl⟩

/-- a law's end: true; all reads as it did -/
theorem post_true {f : Func} {s : ChangeSpec} {fresh handsOn : Bool} {W' : World} {args : Array Value} {ds : List (DataW H)} {p : List MemPlace} {tb : TypeId} (hl : laidOutB P = true)
    (hr : ∀ t ∈ f.params.toList, P.readableRec t = true ∧ t < P.types.size) (htb : P.underlying tb = some .bool) (hres : f.resultTypes = #[tb]) (hv : s.vars = []) (hfn : s.fn H (ds ++ []) = { results := [.lit (.bool true)], args := ds })
    (hW : DataW.Whole enc P f.params.toList s.vars false W args.toList ds [] (p ++ [])) (hA : DataW.TrodAll enc P W 0 (fun _ => true) true f.params.toList args.toList ds p) (hb : Below W.heap.size W W') :
    s.post enc P f false fresh handsOn false W args (.bool true) W' := by
  have hlt : ∀ x ∈ p, x.block < W.heap.size := fun x hx => by simpa using hW.lt x (by simpa using hx)
  refine ⟨ds, [], p ++ [], [], p, [], hW, ?_, ?_, ?_, hb.frame _, fun h => by cases h⟩
  · rw [hfn, hres]
    exact trodAll_mk1 ⟨1, by simp [DataW.trod, Value.cells, htb]⟩
  · rw [hfn]
    exact all_stay hl hb hr hA hlt (fun x hx => by simpa using hlt x hx)
  · rw [hfn, hv]
    rfl

end
end Go.Av
