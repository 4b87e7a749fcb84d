/- Maps: the operations of the abstract evaluator, and that the model's operations do what they say. -/
import Derived.Test.YtfmonjbhfocjbaaGreatDoorAv10
import Derived.Test.YtfmonjbhfocjbaaGreatDoorAv4
import Derived.MapKept
import Derived.RangeFuncRecord
namespace Go.Av
open Go Go.RowKit

def KT.desc : KT → TypeDesc
  | .bool => .bool
  | .int k => .int k
  | .str => .string

def KT.fits : KT → AV → Bool
  | .bool, .bool _ => true
  | .int k, .int l _ => decide (k = l)
  | .str, .str _ => true
  | _, _ => false

def ktOf (P : Program) (T : TypeId) : Option KT :=
  match P.underlying T with
  | some .bool => some .bool
  | some (.int k) => some (.int k)
  | some .string => some .str
  | _ => none

theorem ktOf_spec {P : Program} {T : TypeId} {kt : KT} (h : ktOf P T = some kt) : P.underlying T = some kt.desc := by
  unfold ktOf at h
  split at h <;> first | (cases h; assumption) | cases h

/-- the zero value of a map's elements -/
def zeroVOf (P : Program) (T : TypeId) : Option AV := (P.info? T).bind fun i => i.zero.bind constAV

theorem zeroVOf_run {P : Program} {T : TypeId} {z : AV} (h : zeroVOf P T = some z) : ∃ zv, (∀ w, (zeroValue T).run P w = .ok zv w) ∧ ∀ G, Rep G z zv := by
  unfold zeroVOf at h
  cases hi : P.info? T with
  | none => simp [hi] at h
  | some i =>
    simp only [hi, Option.bind_some, Option.bind_eq_some_iff] at h
    obtain ⟨zv, hz, hc⟩ := h
    exact ⟨zv, fun w => by simp [zeroValue, typeInfo, hi, hz], fun G => constAV_rep G hc⟩

theorem fits_key {G : Ghost} {kt : KT} {k : AV} {v : Value} (h : kt.fits k = true) (hr : Rep G k v) : MapKept.IsKey kt.desc v := by
  cases kt <;> cases k <;> simp [KT.fits] at h <;> (rw [show v = _ from hr]; simp [KT.desc, MapKept.IsKey]) <;> exact h.symm

theorem fits_eq {G : Ghost} {kt : KT} {a b : AV} {va vb : Value} (ha : kt.fits a = true) (hb : kt.fits b = true) (ra : Rep G a va) (rb : Rep G b vb) : va = vb ↔ a = b := by
  cases kt <;> cases a <;> simp [KT.fits] at ha <;> cases b <;> simp [KT.fits] at hb <;> (rw [show va = _ from ra, show vb = _ from rb]; simp)

theorem fits_simple {kt : KT} {k : AV} (h : kt.fits k = true) : k.simple = true := by
  cases kt <;> cases k <;> first | rfl | (simp [KT.fits] at h)

def ME.is (k : AV) (e : ME) : Bool := decide (e.k = k)
def fitAll (kt : KT) (k : AV) (es : List ME) : Bool := kt.fits k && es.all fun e => kt.fits e.k
def outM (ok : Bool) (v : AV) (b : Bool) : AV := cond ok (.tup [v, .bool b]) v
def getK (es : List ME) (k : AV) : Option AV := (es.find? (ME.is k)).map ME.v
def setK (es : List ME) (k v : AV) : List ME := es.map fun e => cond (e.is k) ⟨k, v, e.b⟩ e
def delK (es : List ME) (k : AV) : List ME := es.filter fun e => !e.is k
def setB (es : List ME) (n : Nat) (v : AV) : List ME := es.map fun e => cond (Nat.beq e.b n) ⟨e.k, v, e.b⟩ e

def eMget (σ : Store) (kt : KT) (ok : Bool) (zero m k : AV) : Option AV :=
  match m with
  | .nilm => cond (kt.fits k) (some (outM ok zero false)) none
  | .map id => match σ[id]? with
    | some (.map _ es _) => cond (fitAll kt k es) (some (match getK es k with | some v => outM ok v true | none => outM ok zero false)) none
    | _ => none
  | _ => none

def putM (ex : Bool) (es : List ME) (cl : Nat) (k v : AV) : AO := cond (es.any (ME.is k)) (.map ex (setK es k v) cl) (.map ex (es ++ [⟨k, v, cl⟩]) (cl + 1))

def eMset (σ : Store) (kt : KT) (m k v : AV) : Option Store :=
  match m with
  | .map id => match σ[id]? with
    | some (.map ex es cl) => cond (fitAll kt k es) (some (σ.set id (putM ex es cl k v))) none
    | _ => none
  | _ => none

def eMdel (σ : Store) (kt : KT) (m k : AV) : Option Store :=
  match m with
  | .nilm => cond (kt.fits k) (some σ) none
  | .map id => match σ[id]? with
    | some (.map ex es cl) => cond (fitAll kt k es) (some (σ.set id (.map ex (delK es k) cl))) none
    | _ => none
  | _ => none

def eMlen (σ : Store) (m : AV) : Option AV :=
  match m with
  | .nilm => some (.int .i64 0)
  | .map id => match σ[id]? with
    | some (.map _ es _) => some (.int .i64 es.length)
    | _ => none
  | _ => none

def stampM (ex : Bool) (n : Nat) : AV := cond ex (.int .i64 n) .top

def eMent (σ : Store) (kt : KT) (zero m k : AV) : Option (AV × Store) :=
  match m with
  | .map id => match σ[id]? with
    | some (.map ex es cl) => cond (fitAll kt k es)
      (some (match es.find? (ME.is k) with
        | some e => (.tup [e.v, stampM ex e.b], σ)
        | none => (.tup [zero, stampM ex cl], σ.set id (.map ex (es ++ [⟨k, zero, cl⟩]) (cl + 1))))) none
    | _ => none
  | _ => none

def eMest (σ : Store) (m s v : AV) : Option Store :=
  match m, s with
  | .map id, .int .i64 (.ofNat n) => match σ[id]? with
    | some (.map true es cl) => cond (es.any fun e => Nat.beq e.b n) (some (σ.set id (.map true (setB es n v) cl))) none
    | _ => none
  | _, _ => none

/-! ### entries -/
section
variable {G : Ghost} {ex : Bool}

theorem EntRep.length : ∀ {es : List ME} {ents : List MapEntry}, EntRep G ex es ents → ents.length = es.length
  | [], _, h => by rw [show _ = [] from h]; rfl
  | _ :: _, _, ⟨e, r, he, _, _, _, h⟩ => by subst he; simp [h.length]

theorem EntRep.get : ∀ {es : List ME} {ents : List MapEntry}, EntRep G ex es ents → ∀ (i : Nat) e, ents[i]? = some e → ∃ m, es[i]? = some m ∧ Rep G m.k e.key ∧ Rep G m.v e.val ∧ (ex = true → m.b = e.born)
  | [], _, h, i, e, he => by rw [show _ = [] from h] at he; simp at he
  | m :: _, _, ⟨e0, r, h0, h1, h2, h3, h⟩, i, e, he => by
    subst h0
    cases i with
    | zero => simp only [List.getElem?_cons_zero, Option.some.injEq] at he; subst he; exact ⟨m, rfl, h1, h2, h3⟩
    | succ i => exact h.get i e (by simpa using he)

theorem EntRep.of_get : ∀ {es : List ME} {ents : List MapEntry}, ents.length = es.length → (∀ (i : Nat) m e, es[i]? = some m → ents[i]? = some e → Rep G m.k e.key ∧ Rep G m.v e.val ∧ (ex = true → m.b = e.born)) → EntRep G ex es ents
  | [], [], _, _ => rfl
  | [], _ :: _, h, _ => by simp at h
  | _ :: _, [], h, _ => by simp at h
  | m :: es, e :: ents, hl, h => by
    obtain ⟨h1, h2, h3⟩ := h 0 m e rfl rfl
    exact ⟨e, ents, rfl, h1, h2, h3, EntRep.of_get (by simpa using hl) fun i m' e' hm he => h (i + 1) m' e' (by simpa using hm) (by simpa using he)⟩

theorem EntRep.snoc : ∀ {es : List ME} {ents : List MapEntry}, EntRep G ex es ents → ∀ {m : ME} {e : MapEntry}, Rep G m.k e.key → Rep G m.v e.val → (ex = true → m.b = e.born) → EntRep G ex (es ++ [m]) (ents ++ [e])
  | [], _, h, m, e, h1, h2, h3 => by rw [show _ = [] from h]; exact ⟨e, [], rfl, h1, h2, h3, rfl⟩
  | _ :: _, _, ⟨e0, r, h0, k1, k2, k3, h⟩, m, e, h1, h2, h3 => by subst h0; exact ⟨e0, _, rfl, k1, k2, k3, h.snoc h1 h2 h3⟩

theorem EntRep.erase : ∀ {es : List ME} {ents : List MapEntry}, EntRep G ex es ents → ∀ (j : Nat), EntRep G ex (es.eraseIdx j) (ents.eraseIdx j)
  | [], _, h, j => by rw [show _ = [] from h]; simp [EntRep]
  | _ :: _, _, ⟨e0, r, h0, k1, k2, k3, h⟩, j => by
    subst h0
    cases j with
    | zero => simpa using h
    | succ j => simp only [List.eraseIdx_cons_succ]; exact ⟨e0, _, rfl, k1, k2, k3, h.erase j⟩

theorem nodup_idx {α β : Type} {f : α → β} : ∀ {l : List α}, (l.map f).Nodup → ∀ {i j : Nat} {a b : α}, l[i]? = some a → l[j]? = some b → f a = f b → i = j
  | [], _, i, _, _, _, h, _, _ => by simp at h
  | x :: l, h, i, j, a, b, ha, hb, e => by
    rw [List.map_cons, List.nodup_cons] at h
    cases i with
    | zero =>
      cases j with
      | zero => rfl
      | succ j =>
        simp only [List.getElem?_cons_zero, Option.some.injEq, List.getElem?_cons_succ] at ha hb
        subst ha
        exact (h.1 (by rw [e]; exact List.mem_map_of_mem (List.mem_of_getElem? hb))).elim
    | succ i =>
      cases j with
      | zero =>
        simp only [List.getElem?_cons_zero, Option.some.injEq, List.getElem?_cons_succ] at ha hb
        subst hb
        exact (h.1 (by rw [← e]; exact List.mem_map_of_mem (List.mem_of_getElem? ha))).elim
      | succ j => exact congrArg (· + 1) (nodup_idx h.2 (by simpa using ha) (by simpa using hb) e)

theorem delK_erase {k : AV} : ∀ {es : List ME}, (es.map ME.k).Nodup → ∀ {j : Nat} {m : ME}, es[j]? = some m → m.k = k → delK es k = es.eraseIdx j
  | [], _, j, m, h, _ => by simp at h
  | x :: es, h, j, m, hm, hk => by
    rw [List.map_cons, List.nodup_cons] at h
    cases j with
    | zero =>
      simp only [List.getElem?_cons_zero, Option.some.injEq] at hm
      subst hm
      have : ∀ e ∈ es, (!e.is k) = true := fun e he => by
        simp only [ME.is, Bool.not_eq_true', decide_eq_false_iff_not]
        intro e2
        exact h.1 (by rw [hk, ← e2]; exact List.mem_map_of_mem he)
      simp only [delK, List.filter_cons, List.eraseIdx_cons_zero]
      rw [if_neg (by simp [ME.is, hk])]
      exact List.filter_eq_self.2 this
    | succ j =>
      have hm' : es[j]? = some m := by simpa using hm
      have hx : x.k ≠ k := fun e => h.1 (by rw [e, ← hk]; exact List.mem_map_of_mem (List.mem_of_getElem? hm'))
      simp only [delK, List.filter_cons, List.eraseIdx_cons_succ]
      rw [if_pos (by simp [ME.is, hx])]
      congr 1
      exact delK_erase h.2 hm' hk

theorem find_unique {k : AV} {es : List ME} (h : (es.map ME.k).Nodup) {m : ME} (hm : m ∈ es) (hk : m.k = k) : es.find? (ME.is k) = some m := by
  cases hf : es.find? (ME.is k) with
  | none =>
    have := List.find?_eq_none.1 hf m hm
    simp [ME.is, hk] at this
  | some m' =>
    have h1 := List.find?_some hf
    have h2 := List.mem_of_find?_eq_some hf
    simp only [ME.is, decide_eq_true_eq] at h1
    obtain ⟨i, hi⟩ := List.getElem?_of_mem hm
    obtain ⟨j, hj⟩ := List.getElem?_of_mem h2
    have := nodup_idx h hi hj (by rw [hk, h1])
    subst this
    rw [hi] at hj; cases hj; rfl

theorem find_none {k : AV} {es : List ME} (h : ∀ m ∈ es, m.k ≠ k) : es.find? (ME.is k) = none := by
  rw [List.find?_eq_none]; intro m hm; simp [ME.is, h m hm]

theorem setK_keys (es : List ME) (k v : AV) : (setK es k v).map ME.k = es.map ME.k := by
  simp only [setK, List.map_map]
  refine List.map_congr_left fun e _ => ?_
  simp only [Function.comp, ME.is]
  by_cases h : e.k = k <;> simp [h]
theorem setK_born (es : List ME) (k v : AV) : (setK es k v).map ME.b = es.map ME.b := by
  simp only [setK, List.map_map]
  refine List.map_congr_left fun e _ => ?_
  simp only [Function.comp]
  cases e.is k <;> rfl
theorem setB_keys (es : List ME) (n : Nat) (v : AV) : (setB es n v).map ME.k = es.map ME.k := by
  simp only [setB, List.map_map]
  refine List.map_congr_left fun e _ => ?_
  simp only [Function.comp]
  cases Nat.beq e.b n <;> rfl
theorem setB_born (es : List ME) (n : Nat) (v : AV) : (setB es n v).map ME.b = es.map ME.b := by
  simp only [setB, List.map_map]
  refine List.map_congr_left fun e _ => ?_
  simp only [Function.comp]
  cases Nat.beq e.b n <;> rfl

theorem all_of_map {α : Type} {f : ME → α} {p : α → Prop} {es es' : List ME} (h : es'.map f = es.map f) (ha : ∀ e ∈ es, p (f e)) : ∀ e ∈ es', p (f e) := fun e he => by
  have : f e ∈ es.map f := by rw [← h]; exact List.mem_map_of_mem he
  obtain ⟨e', h1, h2⟩ := List.mem_map.1 this
  exact h2 ▸ ha e' h1

theorem born_lt {es es' : List ME} {cl : Nat} (h : es'.map ME.b = es.map ME.b) (hb : ex = true → (es.map ME.b).Nodup ∧ ∀ e ∈ es, e.b < cl) : ex = true → (es'.map ME.b).Nodup ∧ ∀ e ∈ es', e.b < cl := fun hx =>
  ⟨by rw [h]; exact (hb hx).1, all_of_map (f := ME.b) (p := (· < cl)) h (hb hx).2⟩
end

section
variable {K : Cfg} {G : Ghost} {σ : Store} {w : World}

structure MapAt (K : Cfg) (G : Ghost) (w : World) (id b : Nat) (ex : Bool) (es : List ME) (cl : Nat) (ents : Array MapEntry) (clock : Nat) : Prop where
  obj : G.obj[id]? = some (.map b)
  base : K.B ≤ b
  heap : w.heap[b]? = some (.map ents clock)
  ok : MapOK G ex es cl ents.toList clock

theorem map_at (h : Inv K G σ w) {id : Nat} {v : Value} (hr : Rep G (.map id) v) {ex : Bool} {es : List ME} {cl : Nat} (hs : σ[id]? = some (.map ex es cl)) :
    ∃ b ents clock, v = .map (some b) ∧ MapAt K G w id b ex es cl ents clock := by
  obtain ⟨b, hb, rfl⟩ := hr
  have hok := h.obj id _ _ hb hs
  obtain ⟨h1, ents, clock, h2, h3⟩ := hok
  exact ⟨b, ents, clock, rfl, hb, h1, h2, h3⟩

/-- the model's search -/
theorem find_spec {kt : KT} {id b : Nat} {ex : Bool} {es : List ME} {cl : Nat} {ents : Array MapEntry} {clock : Nat} (hm : MapAt K G w id b ex es cl ents clock) {k : AV} {vk : Value}
    (hk : Rep G k vk) (hf : fitAll kt k es = true) :
    MapKept.IsKey kt.desc vk ∧ ∃ es', es.Perm es' ∧ EntRep G ex es' ents.toList ∧ (ex = true → es' = es ∧ clock = cl) ∧ (es'.map ME.k).Nodup ∧
    ((Instr.findNow kt.desc vk ents.toList 0 = some none ∧ (∀ m ∈ es', m.k ≠ k) ∧ es.find? (ME.is k) = none ∧ es.any (ME.is k) = false) ∨
      ∃ j e m, Instr.findNow kt.desc vk ents.toList 0 = some (some (j, e.val)) ∧ ents.toList[j]? = some e ∧ e.key = vk ∧ es'[j]? = some m ∧ m.k = k ∧ Rep G m.v e.val ∧ (ex = true → m.b = e.born) ∧
        es.find? (ME.is k) = some m ∧ es.any (ME.is k) = true) := by
  simp only [fitAll, Bool.and_eq_true, List.all_eq_true] at hf
  obtain ⟨es', h1, h2, h3⟩ := hm.ok.ents
  have hkey := fits_key hf.1 hk
  have hnd : (es'.map ME.k).Nodup := (h1.map ME.k).nodup_iff.1 hm.ok.keys
  refine ⟨hkey, es', h1, h2, h3, hnd, ?_⟩
  have hfit : ∀ m ∈ es', kt.fits m.k = true := fun m hm' => hf.2 m (h1.mem_iff.2 hm')
  have hall : ∀ x ∈ ents.toList, MapKept.IsKey kt.desc x.key := fun x hx => by
    obtain ⟨i, hi⟩ := List.getElem?_of_mem hx
    obtain ⟨m, k1, k2, _⟩ := h2.get i x hi
    exact fits_key (hfit m (List.mem_of_getElem? k1)) k2
  rcases MapKept.findNow_spec hkey ents.toList 0 hall with ⟨k1, k2⟩ | ⟨j, e, k1, k2, k3⟩
  · left
    have hne : ∀ m ∈ es', m.k ≠ k := fun m hm' he => by
      obtain ⟨i, hi⟩ := List.getElem?_of_mem hm'
      have hlt := (List.getElem?_eq_some_iff.1 hi).1
      have hl := h2.length
      obtain ⟨m2, q1, q2, _⟩ := h2.get i _ (List.getElem?_eq_getElem (by omega : i < ents.toList.length))
      rw [hi] at q1; cases q1
      exact k2 _ (List.getElem_mem (by omega)) ((fits_eq (hfit m hm') hf.1 q2 hk).2 he)
    have hne2 : ∀ m ∈ es, m.k ≠ k := fun m hm' => hne m (h1.mem_iff.1 hm')
    refine ⟨k1, hne, find_none hne2, ?_⟩
    rw [List.any_eq_false]; intro m hm'; simp [ME.is, hne2 m hm']
  · right
    obtain ⟨m, q1, q2, q3, q4⟩ := h2.get j e k2
    have hmem := List.mem_of_getElem? q1
    have hmk : m.k = k := (fits_eq (hfit m hmem) hf.1 q2 hk).1 k3
    have hmem2 := h1.mem_iff.2 hmem
    refine ⟨j, e, m, by simpa using k1, k2, k3, q1, hmk, q3, q4, find_unique hm.ok.keys hmem2 hmk, ?_⟩
    rw [List.any_eq_true]; exact ⟨m, hmem2, by simp [ME.is, hmk]⟩

theorem setMap (h : Inv K G σ w) {id b : Nat} {ex : Bool} {es : List ME} {cl : Nat} {ents : Array MapEntry} {clock : Nat} (hm : MapAt K G w id b ex es cl ents clock)
    {es2 : List ME} {cl2 : Nat} {ents2 : Array MapEntry} {clock2 : Nat} (hok : MapOK G ex es2 cl2 ents2.toList clock2) :
    Inv K G (σ.set id (.map ex es2 cl2)) { w with heap := w.heap.setIfInBounds b (.map ents2 clock2) } := by
  have hlt := (Array.getElem?_eq_some_iff.1 hm.heap).1
  refine h.setObj (g := .map b) hm.obj (fun k hk ho => ?_) rfl rfl rfl (by simp) (fun x o v c hro ho => ?_) ⟨hm.base, ents2, clock2, by simp [hlt], hok⟩
  · simp only [GO.owns] at ho
    rw [Array.getElem?_setIfInBounds_ne (fun e => ho e.symm)]
  · exact (h.hid id _ hm.obj x o v c ho hro).elim

theorem mkmap_ok (h : Inv K G σ w) {T : TypeId} : SemOK K G w (Instr.makeMap T none) (.map σ.length) (σ ++ [.map true [] 0]) := by
  have hx := G.addObj_ext (.map w.heap.size)
  refine ⟨_, _, G.addObj (.map w.heap.size), by simp [Instr.makeMap]; rfl, hx, ⟨w.heap.size, by rw [← h.len]; exact G.addObj_new _, rfl⟩, ?_⟩
  refine h.allocObj (.map #[] 0) (g := .map w.heap.size) (a := .map true [] 0) ⟨h.base, #[], 0, (MapKept.heap_alloc w _).1, ⟨⟨[], .refl _, rfl, fun _ => ⟨rfl, rfl⟩⟩, by simp, by simp, fun _ => by simp⟩⟩ fun x hx => hx

theorem outM_rep (G : Ghost) (ok : Bool) {v : AV} {val : Value} (h : Rep G v val) (b : Bool) : Rep G (outM ok v b) (if ok then .tuple #[val, .bool b] else val) := by
  cases ok with
  | true => exact ⟨_, rfl, val, [.bool b], rfl, h, .bool b, [], rfl, rfl, rfl⟩
  | false => exact h

theorem mget_ok (h : Inv K G σ w) {T key elem : TypeId} {kt : KT} (hT : K.P.underlying T = some (.map key elem)) (hkt : ktOf K.P key = some kt) {zero : AV} (hz : zeroVOf K.P elem = some zero) {ok : Bool}
    {m k v : AV} {vm vk : Value} (hm : Rep G m vm) (hk : Rep G k vk) (he : eMget σ kt ok zero m k = some v) : SemOK K G w (Instr.lookup T vm vk ok) v σ := by
  have hd := ktOf_spec hkt
  obtain ⟨zv, hz1, hz2⟩ := zeroVOf_run hz
  cases m <;> first | (simp [eMget] at he; done) | skip
  case nilm =>
    rw [show vm = _ from hm]
    simp only [eMget] at he
    cases hf : kt.fits k with
    | false => rw [hf] at he; cases he
    | true =>
      rw [hf] at he; cases he
      have hkey := fits_key hf hk
      refine SemOK.pure' h ?_ (outM_rep G ok (hz2 G) false)
      have hfn : Instr.findNow kt.desc vk [] 0 = some none := rfl
      simp [Instr.lookup, run_underlying hT, MapKept.run_checkKey hd hkey, MapKept.run_findKey hd hfn, hz1, Result.andThen]
  case map id =>
    simp only [eMget] at he
    split at he <;> first | (cases he; done) | skip
    rename_i ex es cl hs
    cases hf : fitAll kt k es with
    | false => rw [hf] at he; cases he
    | true =>
      rw [hf] at he
      simp only [cond_true, Option.some.injEq] at he
      obtain ⟨b, ents, clock, rfl, hat⟩ := map_at h hm hs
      obtain ⟨hkey, es', _, _, _, _, hcase⟩ := find_spec hat hk hf
      rcases hcase with ⟨q1, _, q3, _⟩ | ⟨j, e, m, q1, _, _, _, _, q6, _, q8, _⟩
      · simp only [getK, q3, Option.map_none] at he
        subst he
        refine SemOK.pure' h ?_ (outM_rep G ok (hz2 G) false)
        simp [Instr.lookup, run_underlying hT, MapKept.run_getObj_map hat.heap, MapKept.run_checkKey hd hkey, MapKept.run_findKey hd q1, hz1, Result.andThen]
      · simp only [getK, q8, Option.map_some] at he
        subst he
        refine SemOK.pure' h ?_ (outM_rep G ok q6 true)
        simp [Instr.lookup, run_underlying hT, MapKept.run_getObj_map hat.heap, MapKept.run_checkKey hd hkey, MapKept.run_findKey hd q1, Result.andThen]

theorem simple_of {kt : KT} {k : AV} {es : List ME} (h : fitAll kt k es = true) : k.simple = true := by
  simp only [fitAll, Bool.and_eq_true] at h; exact fits_simple h.1

theorem setK_same {k v : AV} {m : ME} (hm : m.k = k) : (cond (m.is k) (⟨k, v, m.b⟩ : ME) m) = ⟨k, v, m.b⟩ := by simp [ME.is, hm]
theorem setK_other {k v : AV} {m : ME} (hm : m.k ≠ k) : (cond (m.is k) (⟨k, v, m.b⟩ : ME) m) = m := by simp [ME.is, hm]

/-- an entry's value is set -/
theorem put_ok {kt : KT} {id b : Nat} {ex : Bool} {es : List ME} {cl : Nat} {ents : Array MapEntry} {clock : Nat} (hat : MapAt K G w id b ex es cl ents clock) {k v : AV} {vk vv : Value}
    (hk : Rep G k vk) (hv : Rep G v vv) (hf : fitAll kt k es = true) :
    (∃ j e, Instr.findNow kt.desc vk ents.toList 0 = some (some (j, e.val)) ∧ ents[j]? = some e ∧ e.key = vk ∧ es.any (ME.is k) = true ∧
      MapOK G ex (setK es k v) cl (ents.modify j fun e => { e with key := vk, val := vv }).toList clock) ∨
    (Instr.findNow kt.desc vk ents.toList 0 = some none ∧ es.any (ME.is k) = false ∧ es.find? (ME.is k) = none ∧
      ∃ ex', (ex' = true → clock = cl) ∧ ex' = ex ∧ MapOK G ex (es ++ [⟨k, v, cl⟩]) (cl + 1) (ents.push ⟨vk, vv, clock⟩).toList (clock + 1)) := by
  obtain ⟨hkey, es', hperm, hrep, hex, hnd, hcase⟩ := find_spec hat hk hf
  have hok := hat.ok
  rcases hcase with ⟨q1, q2, q3, q4⟩ | ⟨j, e, m, q1, q2, q3, q4, q5, q6, q7, q8, q9⟩
  · right
    refine ⟨q1, q4, q3, ex, fun hx => (hex hx).2, rfl, ⟨es' ++ [⟨k, v, cl⟩], hperm.append_right _, ?_, fun hx => ⟨by rw [(hex hx).1], by rw [(hex hx).2]⟩⟩, ?_, ?_, ?_⟩
    · rw [Array.toList_push]; exact hrep.snoc hk hv fun hx => ((hex hx).2).symm
    · rw [List.map_append, List.nodup_append]
      refine ⟨hok.keys, by simp, fun a ha b hb => ?_⟩
      simp only [List.map_cons, List.map_nil, List.mem_singleton] at hb
      subst hb
      obtain ⟨m, hm1, hm2⟩ := List.mem_map.1 ha
      rw [← hm2]; exact q2 m (hperm.mem_iff.1 hm1)
    · intro e he
      rcases List.mem_append.1 he with he | he
      · exact hok.simple e he
      · rw [List.mem_singleton] at he; subst he; exact simple_of hf
    · intro hx
      obtain ⟨b1, b2⟩ := hok.born hx
      refine ⟨?_, fun e he => ?_⟩
      · rw [List.map_append, List.nodup_append]
        refine ⟨b1, by simp, fun a ha b hb => ?_⟩
        simp only [List.map_cons, List.map_nil, List.mem_singleton] at hb
        subst hb
        obtain ⟨m, hm1, hm2⟩ := List.mem_map.1 ha
        have := b2 m hm1; omega
      · rcases List.mem_append.1 he with he | he
        · have := b2 e he; omega
        · rw [List.mem_singleton] at he; subst he; simp
  · left
    refine ⟨j, e, q1, by simpa using q2, q3, q9, ⟨setK es' k v, hperm.map _, ?_, fun hx => ⟨by rw [(hex hx).1], (hex hx).2⟩⟩, ?_, ?_, ?_⟩
    · refine EntRep.of_get (by simp [setK, hrep.length]) fun i mi ei hmi hei => ?_
      simp only [setK, List.getElem?_map, Option.map_eq_some_iff] at hmi
      obtain ⟨m0, hm0, rfl⟩ := hmi
      rw [Array.toList_modify, List.getElem?_modify] at hei
      obtain ⟨e0, he0, rfl⟩ := Option.map_eq_some_iff.1 hei
      obtain ⟨m1, p1, p2, p3, p4⟩ := hrep.get i e0 he0
      rw [hm0] at p1; cases p1
      by_cases hij : j = i
      · subst hij
        rw [q4] at hm0; cases hm0
        rw [q2] at he0; cases he0
        rw [if_pos rfl, setK_same q5]
        exact ⟨hk, hv, q7⟩
      · rw [if_neg hij, setK_other (fun e => hij (nodup_idx hnd q4 hm0 (by rw [q5, e])))]
        exact ⟨p2, p3, p4⟩
    · rw [setK_keys]; exact hok.keys
    · exact all_of_map (f := ME.k) (p := fun k => k.simple = true) (setK_keys es k v) hok.simple
    · exact born_lt (setK_born es k v) hok.born

theorem mset_ok (h : Inv K G σ w) {T key elem : TypeId} {kt : KT} (hT : K.P.underlying T = some (.map key elem)) (hkt : ktOf K.P key = some kt)
    {m k v : AV} {vm vk vv : Value} (hm : Rep G m vm) (hk : Rep G k vk) (hv : Rep G v vv) {σ' : Store} (he : eMset σ kt m k v = some σ') : SemOKU K G w (Instr.mapUpdate T vm vk vv) σ' := by
  have hd := ktOf_spec hkt
  cases m <;> first | (simp [eMset] at he; done) | skip
  rename_i id
  simp only [eMset] at he
  split at he <;> first | (cases he; done) | skip
  rename_i ex es cl hs
  cases hf : fitAll kt k es with
  | false => rw [hf] at he; cases he
  | true =>
    rw [hf] at he
    simp only [cond_true, Option.some.injEq] at he
    subst he
    obtain ⟨b, ents, clock, rfl, hat⟩ := map_at h hm hs
    have hkey := (find_spec hat hk hf).1
    rcases put_ok hat hk hv hf with ⟨j, e, q1, q2, q3, q4, q5⟩ | ⟨q1, q2, q3, ex', _, _, q4⟩
    · have hset := setMap h hat q5
      rw [putM, q4]
      exact ⟨_, G, by
        simp [Instr.mapUpdate, run_underlying hT, MapKept.run_getObj_map hat.heap, MapKept.run_checkKey hd hkey, MapKept.run_findKey hd q1, q2, q3, MapKept.run_keyThatStays hkey, MapKept.run_setObj_map _ hat.heap, Result.andThen], Ext.refl G, hset⟩
    · have hset := setMap h hat q4
      rw [putM, q2]
      exact ⟨_, G, by
        simp [Instr.mapUpdate, run_underlying hT, MapKept.run_getObj_map hat.heap, MapKept.run_checkKey hd hkey, MapKept.run_findKey hd q1, MapKept.run_setObj_map _ hat.heap, Result.andThen], Ext.refl G, hset⟩

theorem mdel_ok (h : Inv K G σ w) {T key elem ty : TypeId} {kt : KT} {ts : Array TypeId} (ht : ts[0]? = some T) (hT : K.P.underlying T = some (.map key elem)) (hkt : ktOf K.P key = some kt)
    {m k : AV} {vm vk : Value} (hm : Rep G m vm) (hk : Rep G k vk) {σ' : Store} (he : eMdel σ kt m k = some σ') : SemOK K G w (Builtin.delete_ ts ty #[vm, vk]) (.tup []) σ' := by
  have hd := ktOf_spec hkt
  have hu : ∀ G, Rep G (.tup []) (.tuple #[]) := fun G => ⟨#[], rfl, rfl⟩
  cases m <;> first | (simp [eMdel] at he; done) | skip
  case nilm =>
    rw [show vm = _ from hm]
    simp only [eMdel] at he
    cases hf : kt.fits k with
    | false => rw [hf] at he; cases he
    | true =>
      rw [hf] at he; cases he
      have hkey := fits_key hf hk
      refine SemOK.pure' h ?_ (hu G)
      simp [Builtin.delete_, ht, run_underlying hT, MapKept.run_checkKey hd hkey, Result.andThen]
  case map id =>
    simp only [eMdel] at he
    split at he <;> first | (cases he; done) | skip
    rename_i ex es cl hs
    cases hf : fitAll kt k es with
    | false => rw [hf] at he; cases he
    | true =>
      rw [hf] at he
      simp only [cond_true, Option.some.injEq] at he
      subst he
      obtain ⟨b, ents, clock, rfl, hat⟩ := map_at h hm hs
      obtain ⟨hkey, es', hperm, hrep, hex, hnd, hcase⟩ := find_spec hat hk hf
      have hok := hat.ok
      have hsub : (delK es k).Sublist es := List.filter_sublist
      have fin : ∀ {ents2 : Array MapEntry}, EntRep G ex (delK es' k) ents2.toList → MapOK G ex (delK es k) cl ents2.toList clock := fun hr => by
        refine ⟨⟨delK es' k, hperm.filter _, hr, fun hx => ⟨by rw [(hex hx).1], (hex hx).2⟩⟩, (hsub.map _).nodup hok.keys, fun e he => hok.simple e (hsub.subset he), fun hx => ?_⟩
        obtain ⟨b1, b2⟩ := hok.born hx
        exact ⟨(hsub.map _).nodup b1, fun e he => b2 e (hsub.subset he)⟩
      rcases hcase with ⟨q1, q2, q3, _⟩ | ⟨j, e, m, q1, q2, q3, q4, q5, _, _, _, _⟩
      · have hset := setMap h hat (ents2 := ents) (clock2 := clock) (fin (by
            have : delK es' k = es' := List.filter_eq_self.2 fun m hm => by simp [ME.is, q2 m hm]
            rw [this]; exact hrep))
        exact ⟨_, _, G, by
          simp [Builtin.delete_, ht, run_underlying hT, MapKept.run_getObj_map hat.heap, MapKept.run_checkKey hd hkey, MapKept.run_findKey hd q1, MapKept.run_setObj_map _ hat.heap, Result.andThen], Ext.refl G, hu G, hset⟩
      · have hset := setMap h hat (ents2 := ents.eraseIdxIfInBounds j) (clock2 := clock) (fin (by
            rw [delK_erase hnd q4 q5]
            have hj := (List.getElem?_eq_some_iff.1 q2).1
            have : (ents.eraseIdxIfInBounds j).toList = ents.toList.eraseIdx j := by
              unfold Array.eraseIdxIfInBounds
              rw [dif_pos (by simpa using hj)]; simp
            rw [this]; exact hrep.erase j))
        exact ⟨_, _, G, by
          simp [Builtin.delete_, ht, run_underlying hT, MapKept.run_getObj_map hat.heap, MapKept.run_checkKey hd hkey, MapKept.run_findKey hd q1, MapKept.run_setObj_map _ hat.heap, Result.andThen], Ext.refl G, hu G, hset⟩

theorem mlen_ok (h : Inv K G σ w) {T key elem ty : TypeId} (hT : K.P.underlying T = some (.map key elem)) {m v : AV} {vm : Value} (hm : Rep G m vm) (he : eMlen σ m = some v) :
    SemOK K G w (Builtin.len_ #[T] ty #[vm]) v σ := by
  cases m <;> first | (simp [eMlen] at he; done) | skip
  case nilm =>
    rw [show vm = _ from hm]
    cases he
    exact SemOK.pure' h (by simp [Builtin.len_, run_underlying hT]; rfl) rfl
  case map id =>
    simp only [eMlen] at he
    split at he <;> first | (cases he; done) | skip
    rename_i ex es cl hs
    cases he
    obtain ⟨b, ents, clock, rfl, hat⟩ := map_at h hm hs
    obtain ⟨es', hperm, hrep, _⟩ := hat.ok.ents
    refine SemOK.pure' h (by simp [Builtin.len_, run_underlying hT, MapKept.run_getObj_map hat.heap]; rfl) ?_
    have h1 := hrep.length
    have h2 := hperm.length_eq
    simp only [Array.length_toList] at h1
    show _ = _
    rw [h1, ← h2]; rfl

theorem stampM_rep {G : Ghost} {ex : Bool} {n m : Nat} (h : ex = true → n = m) : Rep G (stampM ex n) (goInt m) := by
  cases ex with
  | true => rw [h rfl]; rfl
  | false => trivial

theorem ment_ok (h : Inv K G σ w) {T key elem : TypeId} {kt : KT} (hT : K.P.underlying T = some (.map key elem)) (hkt : ktOf K.P key = some kt) {zero : AV} (hz : zeroVOf K.P elem = some zero)
    {m k v : AV} {vm vk : Value} (hm : Rep G m vm) (hk : Rep G k vk) {σ' : Store} (he : eMent σ kt zero m k = some (v, σ')) : SemOK K G w (Instr.mapEntry T vm vk) v σ' := by
  have hd := ktOf_spec hkt
  obtain ⟨zv, hz1, hz2⟩ := zeroVOf_run hz
  cases m <;> first | (simp [eMent] at he; done) | skip
  rename_i id
  simp only [eMent] at he
  split at he <;> first | (cases he; done) | skip
  rename_i ex es cl hs
  cases hf : fitAll kt k es with
  | false => rw [hf] at he; cases he
  | true =>
    rw [hf] at he
    simp only [cond_true, Option.some.injEq] at he
    obtain ⟨b, ents, clock, rfl, hat⟩ := map_at h hm hs
    obtain ⟨hkey, es', hperm, hrep, hex, hnd, hcase⟩ := find_spec hat hk hf
    have hok := hat.ok
    rcases hcase with ⟨q1, q2, q3, q4⟩ | ⟨j, e, m, q1, q2, q3, q4, q5, q6, q7, q8, q9⟩
    · rw [q3] at he
      simp only [Prod.mk.injEq] at he
      obtain ⟨rfl, rfl⟩ := he
      rcases put_ok hat hk (hz2 G) hf with ⟨j, e, p1, _⟩ | ⟨_, _, _, ex', p2, rfl, p3⟩
      · rw [p1] at q1; cases q1
      · have hset := setMap h hat p3
        have hrep2 : Rep G (.tup [zero, stampM _ cl]) (.tuple #[zv, goInt clock]) := ⟨_, rfl, zv, _, rfl, hz2 G, goInt clock, [], rfl, stampM_rep fun hx => (p2 hx).symm, rfl⟩
        exact ⟨_, _, G, by
          simp [Instr.mapEntry, run_underlying hT, MapKept.run_getObj_map hat.heap, MapKept.run_checkKey hd hkey, MapKept.run_findKey hd q1, hz1, MapKept.run_setObj_map _ hat.heap, Result.andThen], Ext.refl G, hrep2, hset⟩
    · rw [q8] at he
      simp only [Prod.mk.injEq] at he
      obtain ⟨rfl, rfl⟩ := he
      have q2' : ents[j]? = some e := by simpa using q2
      have hm2 : (ents.modify j fun e => { e with key := vk }) = ents := by
        apply Array.ext_getElem?
        intro i
        rw [Array.getElem?_modify]
        by_cases hij : j = i
        · subst hij; rw [if_pos rfl, q2']; simp [← q3]
        · rw [if_neg hij]
      have hw : { w with heap := w.heap.setIfInBounds b (.map ents clock) } = w := by
        have : w.heap.setIfInBounds b (.map ents clock) = w.heap := by
          apply Array.ext_getElem?
          intro i
          rw [Array.getElem?_setIfInBounds]
          by_cases hi : b = i
          · subst hi
            have hlt := (Array.getElem?_eq_some_iff.1 hat.heap).1
            have h2 := hat.heap
            simp [hlt, ← h2]
          · simp [hi]
        rw [this]
      refine SemOK.pure' h (val := .tuple #[e.val, goInt e.born]) ?_ ⟨_, rfl, e.val, _, rfl, q6, goInt e.born, [], rfl, stampM_rep q7, rfl⟩
      simp [Instr.mapEntry, run_underlying hT, MapKept.run_getObj_map hat.heap, MapKept.run_checkKey hd hkey, MapKept.run_findKey hd q1, q2', q3, MapKept.run_keyThatStays hkey, MapKept.run_setObj_map _ hat.heap, Result.andThen, hm2, hw]

theorem mest_ok (h : Inv K G σ w) {T : TypeId} {m s v : AV} {vm vs vv : Value} (hm : Rep G m vm) (hs : Rep G s vs) (hv : Rep G v vv) {σ' : Store} (he : eMest σ m s v = some σ') :
    SemOKU K G w (Instr.entryStore T vm vs vv) σ' := by
  unfold eMest at he
  split at he <;> first | (cases he; done) | skip
  rename_i id n
  split at he <;> first | (cases he; done) | skip
  rename_i es cl hst
  cases hany : (es.any fun e => Nat.beq e.b n) with
  | false => rw [hany] at he; cases he
  | true =>
    rw [hany] at he
    simp only [cond_true, Option.some.injEq] at he
    subst he
    obtain ⟨b, ents, clock, rfl, hat⟩ := map_at h hm hst
    have hok := hat.ok
    obtain ⟨es', hperm, hrep, hex⟩ := hok.ents
    obtain ⟨hes, hcl⟩ := hex rfl
    rw [hes] at hrep
    rw [show vs = _ from hs]
    obtain ⟨b1, b2⟩ := hok.born rfl
    cases hfi : ents.findIdx? (fun e => (e.born : Int) == Int.ofNat n) with
    | none =>
      exfalso
      rw [Array.findIdx?_eq_none_iff] at hfi
      obtain ⟨m, hm1, hm2⟩ := List.any_eq_true.1 hany
      obtain ⟨i, hi⟩ := List.getElem?_of_mem hm1
      have hlt := (List.getElem?_eq_some_iff.1 hi).1
      have hl := hrep.length
      obtain ⟨m', p1, _, _, p4⟩ := hrep.get i _ (List.getElem?_eq_getElem (by omega : i < ents.toList.length))
      rw [hi] at p1; cases p1
      have := hfi _ (List.getElem_mem (by omega : i < ents.toList.length) |> Array.mem_toList_iff.1)
      have hmb := Nat.eq_of_beq_eq_true hm2
      rw [p4 rfl] at hmb
      simp only [Array.getElem_toList] at hmb
      simp at this
      omega
    | some j =>
      rw [Array.findIdx?_eq_some_iff_getElem] at hfi
      obtain ⟨hj, hj2, hj3⟩ := hfi
      refine (fun (hr : EntRep G true (setB es n v) (ents.modify j fun e => { e with val := vv }).toList) => ?_) ?_
      · have hset := setMap h hat (ents2 := ents.modify j fun e => { e with val := vv }) (clock2 := clock) (es2 := setB es n v) (cl2 := cl) ⟨⟨setB es n v, .refl _, hr, fun _ => ⟨rfl, hcl⟩⟩, by rw [setB_keys]; exact hok.keys,
          all_of_map (f := ME.k) (p := fun k => k.simple = true) (setB_keys es n v) hok.simple, born_lt (setB_born es n v) hok.born⟩
        have hfi2 : ents.findIdx? (fun e => (e.born : Int) == Int.ofNat n) = some j := Array.findIdx?_eq_some_iff_getElem.2 ⟨hj, hj2, hj3⟩
        simp only [Int.ofNat_eq_natCast] at hfi2
        exact ⟨_, G, by
          simp [Instr.entryStore, MapKept.run_getObj_map hat.heap, asInt, asIntOf, hfi2, MapKept.run_setObj_map _ hat.heap, Result.andThen], Ext.refl G, hset⟩
      · refine EntRep.of_get (by simp [setB, hrep.length]) fun i mi ei hmi hei => ?_
        simp only [setB, List.getElem?_map, Option.map_eq_some_iff] at hmi
        obtain ⟨m0, hm0, rfl⟩ := hmi
        rw [Array.toList_modify, List.getElem?_modify] at hei
        obtain ⟨e0, he0, rfl⟩ := Option.map_eq_some_iff.1 hei
        obtain ⟨m1, p1, p2, p3, p4⟩ := hrep.get i e0 he0
        rw [hm0] at p1; cases p1
        have hjb : (ents[j]).born = n := by simp at hj2; omega
        obtain ⟨mj, r1, _, _, r4⟩ := hrep.get j ents[j] (by simp [hj])
        by_cases hij : j = i
        · subst hij
          have : e0 = ents[j] := by
            have h1 : ents.toList[j]? = some ents[j] := by simp [hj]
            rw [h1] at he0; cases he0; rfl
          subst this
          have hmb : m0.b = n := by rw [p4 rfl]; exact hjb
          rw [if_pos rfl]
          have : Nat.beq m0.b n = true := by rw [hmb]; simp
          rw [this]
          exact ⟨p2, hv, p4⟩
        · have hne : Nat.beq m0.b n = false := by
            cases hb : Nat.beq m0.b n with
            | false => rfl
            | true =>
              have := Nat.eq_of_beq_eq_true hb
              exact (hij (nodup_idx b1 r1 hm0 (by rw [r4 rfl, hjb, this]))).elim
          rw [if_neg hij, hne]
          exact ⟨p2, p3, p4⟩
end
end Go.Av
