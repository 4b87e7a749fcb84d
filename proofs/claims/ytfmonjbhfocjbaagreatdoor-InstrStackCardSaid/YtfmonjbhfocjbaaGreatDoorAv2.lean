/- The abstract code, the abstract store, and the invariant that ties a store to a world. -/
import Derived.Test.YtfmonjbhfocjbaaGreatDoorAv1
namespace Go.Av
open Go Go.RowKit

inductive Opd where
  | t (n : Nat)
  | c (v : AV)
  | g (n : Nat)

/-- kinds of cells that are compared -/
inductive SK where
  | bool
  | int
  | str
  deriving DecidableEq

/-- kinds of a map's keys -/
inductive KT where
  | bool
  | int (k : IntKind)
  | str
  deriving DecidableEq

/-- kinds of what can be nil -/
inductive NK where
  | ptr
  | sl
  | map
  | fn
  | ifc
  deriving DecidableEq

inductive LO where
  | mv (x : Opd)
  | pick (c a b : Opd)
  | alloc (ty : TypeId) (zero : List AV)
  | box (ty : TypeId) (x : Opd)
  | build (zero : List AV) (parts : List (Nat × Nat × Opd))
  | bsl (es : Nat) (zero : AV) (n : Nat) (parts : List (Nat × Opd))
  | load (ag : Bool) (n : Nat) (a : Opd)
  | store (n : Nat) (a x : Opd)
  | chk (ag : Bool) (n : Nat) (a d : Opd)
  | nilck (x : Opd)
  | ibin (op : BinOp) (x y : Opd)
  | sbin (op : BinOp) (x y : Opd)
  | eqb (neg : Bool) (x y : Opd)
  | eqs (neg : Bool) (sh : List SK) (x y : Opd)
  | eqp (neg : Bool) (x y : Opd)
  | eqnil (nk : NK) (neg : Bool) (x : Opd)
  | not (x : Opd)
  | neg (x : Opd)
  | conv (k : IntKind) (x : Opd)
  | cstr (x : Opd)
  | b2s (x : Opd)
  | mkfn (f : Fn) (fs cs : List Opd)
  | mkmap
  | mset (kt : KT) (m k v : Opd)
  | mget (kt : KT) (ok : Bool) (zero : AV) (m k : Opd)
  | mdel (kt : KT) (m k : Opd)
  | mlen (m : Opd)
  | ment (kt : KT) (zero : AV) (m k : Opd)
  | mest (m s v : Opd)
  | mksl (ty : TypeId) (es bytes : Nat) (zero : List AV) (l c : Opd)
  | sls (x : Opd) (lo hi : Option Opd)
  | sll (es : Nat) (x : Opd) (lo hi mx : Option Opd)
  | sla (n es : Nat) (x : Opd) (lo hi : Option Opd)
  | foff (off : Nat) (x : Opd)
  | fld (ag : Bool) (off n : Nat) (x : Opd)
  | idx (es : Nat) (x i : Opd)
  | idxa (len es : Nat) (x i : Opd)
  | idxv (ag : Bool) (len es : Nat) (x i : Opd)
  | idxs (x i : Opd)
  | lens (x : Opd)
  | lenl (x : Opd)
  | mm (mx : Bool) (x y : Opd)
  | app (ty : TypeId) (es bytes : Nat) (x y : Opd)
  | extr (i : Nat) (x : Opd)
  | mkif (t : TypeId) (x : Opd)
  | call (f : Opd) (args : List Opd)
  | bad

structure LOp where
  dst : Option Nat
  op : LO
  gd : Option (Nat × Bool)

/-- an object of the abstract store -/
structure ME where
  k : AV
  v : AV
  b : Nat

/-- a loop over a function: its state, the jump that is left over, whose round it is, and what the round sees -/
structure LoopA where
  st : LoopState
  pend : Nat
  fn : Nat
  p : Nat
  np : Nat
  lv : List Nat
  caps : List AV

inductive AO where
  | box (ty : TypeId) (row : List AV)
  | tok (ty : TypeId) (top : Nat)
  | map (ex : Bool) (es : List ME) (cl : Nat)
  | loop (la : LoopA)

abbrev Store := List AO
abbrev Env := Nat → AV

def upd (env : Env) (d : Nat) (v : AV) : Env := fun t => cond (Nat.beq t d) v (env t)
def updO (env : Env) (d : Option Nat) (v : AV) : Env := match d with | some d => upd env d v | none => env

theorem upd_same (env : Env) (d : Nat) (v : AV) : upd env d v d = v := by simp [upd]
theorem upd_ne (env : Env) {d t : Nat} (v : AV) (h : t ≠ d) : upd env d v t = env t := by
  have : Nat.beq t d = false := by
    cases e : Nat.beq t d with
    | false => rfl
    | true => exact absurd (Nat.eq_of_beq_eq_true e) h
  simp [upd, this]

def GO.blk? : GO → Option Nat
  | .virt _ _ => none
  | .box b => some b
  | .tok b _ _ _ => some b
  | .map b => some b
  | .loop b => some b

/-- what a map's key may be -/
def AV.simple : AV → Bool
  | .bool _ => true
  | .int _ _ => true
  | .str _ => true
  | _ => false

/-- entries of a map -/
def EntRep (G : Ghost) (ex : Bool) : List ME → List MapEntry → Prop
  | [], es => es = []
  | m :: r, es => ∃ e es', es = e :: es' ∧ Rep G m.k e.key ∧ Rep G m.v e.val ∧ (ex = true → m.b = e.born) ∧ EntRep G ex r es'

/-- a map: its entries in whatever order; an exact one: in this order, with these births -/
structure MapOK (G : Ghost) (ex : Bool) (es : List ME) (cl : Nat) (ents : List MapEntry) (clock : Nat) : Prop where
  ents : ∃ es', es.Perm es' ∧ EntRep G ex es' ents ∧ (ex = true → es' = es ∧ clock = cl)
  keys : (es.map ME.k).Nodup
  simple : ∀ e ∈ es, e.k.simple = true
  born : ex = true → (es.map ME.b).Nodup ∧ ∀ e ∈ es, e.b < cl

structure Cfg where
  P : Program
  gl : Nat → AV
  B : Nat
  w0 : World
  rng : Nat → Nat → List Nat → Array Tmp → Code → Code → Nat → Prop

/-- a left-over jump -/
def pendOf : Nat → Option Code → Prop
  | 0, c => c = none
  | 1, c => c = some .ret
  | n + 2, c => c = some (.exit n)

def CapRep (G : Ghost) : List Nat → List AV → Array Value → Prop
  | [], cs, _ => cs = []
  | t :: ts, cs, tmps => ∃ c r, cs = c :: r ∧ Rep G c (tmps.getD t undef) ∧ CapRep G ts r tmps

structure LoopOK (K : Cfg) (G : Ghost) (la : LoopA) (r : Loop) : Prop where
  st : r.state = la.st
  pend : pendOf la.pend r.pending
  rng : K.rng la.fn la.p la.lv r.params r.assign r.body r.tmps.size
  np : r.params.size = la.np
  caps : CapRep G la.lv la.caps r.tmps

def ObjOK (K : Cfg) (G : Ghost) (w : World) : GO → AO → Prop
  | .virt ty row, .box ty' row' => ty' = ty ∧ row' = row ∧ ∀ c ∈ row, c.const = true
  | .box b, .box ty row => K.B ≤ b ∧ ∃ vs, w.heap[b]? = some (.cells vs ty (0, 0)) ∧ RepL G row vs.toList ∧ ∀ c ∈ row, c.flat = true
  | .tok b cap es top, .tok ty t => K.B ≤ b ∧ top = t ∧ t ≤ cap ∧ cap ≤ maxLen ∧ ∃ vs fz, w.heap[b]? = some (.cells vs ty fz) ∧ vs.size = cap * es ∧ fz.2 ≤ t * es
  | .map b, .map ex es cl => K.B ≤ b ∧ ∃ ents clock, w.heap[b]? = some (.map ents clock) ∧ MapOK G ex es cl ents.toList clock
  | .loop b, .loop la => K.B ≤ b ∧ ∃ r, w.heap[b]? = some (.loop r) ∧ LoopOK K G la r
  | _, _ => False

def GO.owns : GO → Nat → Prop
  | .virt _ _, _ => False
  | .box b, x => x = b
  | .tok b _ _ _, x => x = b
  | .map b, x => x = b
  | .loop b, x => x = b

/-- what no read-only fact may speak of -/
def GO.hides : GO → Nat → Nat → Prop
  | .virt _ _, _, _ => False
  | .box b, x, _ => x = b
  | .tok b _ es top, x, o => x = b ∧ top * es ≤ o
  | .map b, x, _ => x = b
  | .loop b, x, _ => x = b

structure Inv (K : Cfg) (G : Ghost) (σ : Store) (w : World) : Prop where
  len : G.obj.length = σ.length
  below : Below K.B K.w0 w
  base : K.B ≤ w.heap.size
  ro : ∀ b o v c, G.ro b o v c → w.cell? ⟨b, o, none⟩ = some v ∧ Rep G c v ∧ c.flat = true
  obj : ∀ (i : Nat) g a, G.obj[i]? = some g → σ[i]? = some a → ObjOK K G w g a
  sep : ∀ (i j : Nat) gi gj x, G.obj[i]? = some gi → G.obj[j]? = some gj → gi.owns x → gj.owns x → i = j
  hid : ∀ (i : Nat) g, G.obj[i]? = some g → ∀ x o v c, g.hides x o → ¬ G.ro x o v c
  gl : ∀ n, Rep G (K.gl n) (.pointer (some ⟨n, 0, none⟩))
  fx : ∀ D, G.fx D → K.B ≤ D ∧ w.heap[D]? = some (.deferred (some [])) ∧ ∀ (i : Nat) g, G.obj[i]? = some g → ¬ g.owns D

theorem EntRep.monoV {G G' : Ghost} (h : ExtV G G') {ex : Bool} : ∀ {es : List ME} {ents : List MapEntry}, EntRep G ex es ents → EntRep G' ex es ents
  | [], _, hr => hr
  | _ :: _, _, ⟨e, r, he, h1, h2, h3, h4⟩ => ⟨e, r, he, Rep.monoV h h1, Rep.monoV h h2, h3, EntRep.monoV h h4⟩

theorem MapOK.monoV {G G' : Ghost} (h : ExtV G G') {ex : Bool} {es : List ME} {cl : Nat} {ents : List MapEntry} {clock : Nat} (hr : MapOK G ex es cl ents clock) : MapOK G' ex es cl ents clock :=
  ⟨let ⟨es', h1, h2, h3⟩ := hr.ents; ⟨es', h1, h2.monoV h, h3⟩, hr.keys, hr.simple, hr.born⟩

theorem CapRep.monoV {G G' : Ghost} (h : ExtV G G') : ∀ {ts : List Nat} {cs : List AV} {tmps : Array Value}, CapRep G ts cs tmps → CapRep G' ts cs tmps
  | [], _, _, hr => hr
  | _ :: _, _, _, ⟨c, r, e, h1, h2⟩ => ⟨c, r, e, Rep.monoV h h1, CapRep.monoV h h2⟩

theorem LoopOK.monoV {K : Cfg} {G G' : Ghost} (h : ExtV G G') {la : LoopA} {r : Loop} (hr : LoopOK K G la r) : LoopOK K G' la r :=
  ⟨hr.st, hr.pend, hr.rng, hr.np, hr.caps.monoV h⟩

theorem ObjOK.mono {K : Cfg} {G G' : Ghost} (h : Ext G G') {w : World} {g : GO} {a : AO} (hr : ObjOK K G w g a) : ObjOK K G' w g a := by
  cases g <;> cases a <;> simp only [ObjOK] at hr ⊢ <;> try exact hr
  · obtain ⟨h1, vs, h2, h3, h4⟩ := hr; exact ⟨h1, vs, h2, h3.mono h, h4⟩
  · obtain ⟨h1, es, cl, h2, h3⟩ := hr; exact ⟨h1, es, cl, h2, h3.monoV h.toV⟩
  · obtain ⟨h1, r, h2, h3⟩ := hr; exact ⟨h1, r, h2, h3.monoV h.toV⟩

/-- an object sees only the blocks that it owns -/
theorem ObjOK.world {K : Cfg} {G : Ghost} {w w' : World} {g : GO} {a : AO} (hr : ObjOK K G w g a) (hw : ∀ x, g.owns x → w'.heap[x]? = w.heap[x]?) : ObjOK K G w' g a := by
  cases g <;> cases a <;> simp only [ObjOK] at hr ⊢ <;> try exact hr
  · obtain ⟨h1, vs, h2, h3⟩ := hr; exact ⟨h1, vs, by rw [hw _ rfl]; exact h2, h3⟩
  · obtain ⟨h1, h2, h3, h3', vs, fz, h4, h5⟩ := hr; exact ⟨h1, h2, h3, h3', vs, fz, by rw [hw _ rfl]; exact h4, h5⟩
  · obtain ⟨h1, es, cl, h2, h3⟩ := hr; exact ⟨h1, es, cl, by rw [hw _ rfl]; exact h2, h3⟩
  · obtain ⟨h1, r, h2, h3⟩ := hr; exact ⟨h1, r, by rw [hw _ rfl]; exact h2, h3⟩

theorem ObjOK.lt {K : Cfg} {G : Ghost} {w : World} {g : GO} {a : AO} (hr : ObjOK K G w g a) : ∀ x, g.owns x → K.B ≤ x ∧ x < w.heap.size := by
  have key : ∀ {x : Nat} {o : Obj}, w.heap[x]? = some o → x < w.heap.size := fun h => (Array.getElem?_eq_some_iff.1 h).1
  cases g <;> cases a <;> simp only [ObjOK] at hr <;> try exact hr.elim
  all_goals intro x hx
  all_goals simp only [GO.owns] at hx
  · subst hx; obtain ⟨h1, vs, h2, h3⟩ := hr; exact ⟨h1, key h2⟩
  · subst hx; obtain ⟨h1, h2, h3, h3', vs, fz, h4, h5⟩ := hr; exact ⟨h1, key h4⟩
  · subst hx; obtain ⟨h1, es, cl, h2, h3⟩ := hr; exact ⟨h1, key h2⟩
  · subst hx; obtain ⟨h1, r, h2, h3⟩ := hr; exact ⟨h1, key h2⟩

theorem cell_lt {w : World} {b o : Nat} {v : Value} (h : w.cell? ⟨b, o, none⟩ = some v) : b < w.heap.size := World.block_lt_of_cell? w ⟨b, o, none⟩ h

section
variable {K : Cfg} {G : Ghost} {σ : Store} {w : World}

theorem Inv.owned_lt (h : Inv K G σ w) {i : Nat} {g : GO} (hg : G.obj[i]? = some g) : ∀ x, g.owns x → K.B ≤ x ∧ x < w.heap.size := by
  have hi : i < σ.length := by rw [← h.len]; exact (List.getElem?_eq_some_iff.1 hg).1
  exact (h.obj i g _ hg (List.getElem?_eq_getElem hi)).lt

/-- a world in which all blocks that were there are as they were -/
theorem Inv.keep (h : Inv K G σ w) {w' : World} (hb : Below w.heap.size w w') : Inv K G σ w' where
  len := h.len
  below := h.below.trans (hb.mono h.base)
  base := Nat.le_trans h.base hb.size
  ro := fun b o v c hr => by
    obtain ⟨h1, h2, h3⟩ := h.ro b o v c hr
    exact ⟨by rw [World.cell?_of_block (w := w) (hb.block b (cell_lt h1))]; exact h1, h2, h3⟩
  obj := fun i g a hg ha => (h.obj i g a hg ha).world fun x hx => hb.block x (h.owned_lt hg x hx).2
  sep := h.sep
  hid := h.hid
  gl := h.gl
  fx := fun D hD => by
    obtain ⟨h1, h2, h3⟩ := h.fx D hD
    exact ⟨h1, by rw [hb.block D (Array.getElem?_eq_some_iff.1 h2).1]; exact h2, h3⟩

/-- more is known to be read-only: of a block that was not there -/
def Ghost.addRow (G : Ghost) (b o : Nat) (cs : List AV) (vs : List Value) : Ghost :=
  { G with ro := fun b' o' v c => G.ro b' o' v c ∨ (b' = b ∧ ∃ k, o' = o + k ∧ vs[k]? = some v ∧ cs[k]? = some c) }

theorem Ghost.addRow_ext (G : Ghost) (b o : Nat) (cs : List AV) (vs : List Value) : Ext G (G.addRow b o cs vs) :=
  ⟨fun _ _ _ _ h => .inl h, fun _ g hg => ⟨g, hg, .refl g⟩, fun _ h => h⟩

theorem Ghost.addRow_row (G : Ghost) (b o : Nat) {cs : List AV} {vs : List Value} (h : RepL G cs vs) : RoRow (G.addRow b o cs vs) b o cs := fun k c hc => by
  obtain ⟨v, hv, _⟩ := h.get k c hc
  exact ⟨v, .inr ⟨rfl, k, rfl, hv, hc⟩⟩

theorem Inv.addRow (h : Inv K G σ w) {b o : Nat} {cs : List AV} {vs : List Value} (hr : RepL G cs vs) (hf : ∀ c ∈ cs, c.flat = true)
    (hc : ∀ (k : Nat) v, vs[k]? = some v → w.cell? ⟨b, o + k, none⟩ = some v)
    (hh : ∀ (i : Nat) g, G.obj[i]? = some g → ∀ k, k < cs.length → ¬ g.hides b (o + k)) : Inv K (G.addRow b o cs vs) σ w := by
  have hx := G.addRow_ext b o cs vs
  exact {
    len := h.len
    below := h.below
    base := h.base
    ro := fun b' o' v c hr' => by
      rcases hr' with hr' | ⟨rfl, k, rfl, hv, hcc⟩
      · obtain ⟨h1, h2, h3⟩ := h.ro b' o' v c hr'; exact ⟨h1, h2.mono hx, h3⟩
      · obtain ⟨u, hu, hru⟩ := hr.get k c hcc
        rw [hv] at hu; cases hu
        exact ⟨hc k v hv, hru.mono hx, hf c (List.mem_of_getElem? hcc)⟩
    obj := fun i g a hg ha => (h.obj i g a hg ha).mono hx
    sep := h.sep
    hid := fun i g hg x o' v c hhid hro => by
      rcases hro with hro | ⟨rfl, k, rfl, hv, hcc⟩
      · exact h.hid i g hg x o' v c hhid hro
      · exact hh i g hg k (List.getElem?_eq_some_iff.1 hcc).1 hhid
    gl := fun n => (h.gl n).mono hx
    fx := h.fx }

theorem hides_owns {g : GO} {x o : Nat} (h : g.hides x o) : g.owns x := by
  cases g <;> simp only [GO.hides, GO.owns] at h ⊢ <;> first | exact h | exact h.1

/-- a new block of read-only cells -/
theorem Inv.allocRow (h : Inv K G σ w) {cs : List AV} {vs : Array Value} (ty : TypeId) (hr : RepL G cs vs.toList) (hf : ∀ c ∈ cs, c.flat = true) :
    Inv K (G.addRow w.heap.size 0 cs vs.toList) σ (w.alloc (.cells vs ty)) := by
  have h1 : Inv K G σ (w.alloc (.cells vs ty)) := h.keep ((Below.refl _ _).alloc (Nat.le_refl _) _)
  refine h1.addRow hr hf (fun k v hv => ?_) fun i g hg k _ hh => ?_
  · rw [World.cell?_alloc_new]; simpa using hv
  · have := (h.owned_lt hg _ (hides_owns hh)).2; omega

/-- a new object -/
def Ghost.addObj (G : Ghost) (g : GO) : Ghost := { G with obj := G.obj ++ [g] }

theorem Ghost.addObj_ext (G : Ghost) (g : GO) : Ext G (G.addObj g) :=
  ⟨fun _ _ _ _ h => h, fun i g' hg => ⟨g', by simp only [Ghost.addObj]; rw [List.getElem?_append_left (List.getElem?_eq_some_iff.1 hg).1]; exact hg, .refl g'⟩, fun _ h => h⟩

theorem Ghost.addObj_new (G : Ghost) (g : GO) : (G.addObj g).obj[G.obj.length]? = some g := by simp [Ghost.addObj]

theorem getElem?_snoc {α : Type} {l : List α} {x y : α} {i : Nat} (h : (l ++ [x])[i]? = some y) : l[i]? = some y ∨ (i = l.length ∧ y = x) := by
  by_cases hi : i < l.length
  · left; rwa [List.getElem?_append_left hi] at h
  · right
    rw [List.getElem?_append_right (by omega)] at h
    have : i - l.length = 0 := by
      rcases Nat.lt_or_ge (i - l.length) 1 with h' | h'
      · omega
      · rw [List.getElem?_eq_none (by simpa using h')] at h; cases h
    rw [this] at h
    simp at h
    exact ⟨by omega, h.symm⟩

theorem Inv.addObj (h : Inv K G σ w) {g : GO} {a : AO} (hok : ObjOK K (G.addObj g) w g a)
    (hown : ∀ x, g.owns x → ∀ (i : Nat) g', G.obj[i]? = some g' → ¬ g'.owns x) (hfx : ∀ x, g.owns x → ¬ G.fx x)
    (hro : ∀ x o v c, g.hides x o → ¬ G.ro x o v c) : Inv K (G.addObj g) (σ ++ [a]) w := by
  have hx := G.addObj_ext g
  exact {
    len := by simp [Ghost.addObj, h.len]
    below := h.below
    base := h.base
    ro := fun b o v c hr => by obtain ⟨h1, h2, h3⟩ := h.ro b o v c hr; exact ⟨h1, h2.mono hx, h3⟩
    obj := fun i g' a' hg ha => by
      rcases getElem?_snoc hg with hg | ⟨hi, rfl⟩
      · rcases getElem?_snoc ha with ha | ⟨hi, rfl⟩
        · exact (h.obj i g' a' hg ha).mono hx
        · have := (List.getElem?_eq_some_iff.1 hg).1; have := h.len; omega
      · rcases getElem?_snoc ha with ha | ⟨hi', rfl⟩
        · have := (List.getElem?_eq_some_iff.1 ha).1; have := h.len; omega
        · exact hok
    sep := fun i j gi gj x hi hj h1 h2 => by
      rcases getElem?_snoc hi with ki | ⟨ki, ei⟩
      · rcases getElem?_snoc hj with kj | ⟨kj, ej⟩
        · exact h.sep i j gi gj x ki kj h1 h2
        · exact absurd h1 (hown x (ej ▸ h2) i gi ki)
      · rcases getElem?_snoc hj with kj | ⟨kj, ej⟩
        · exact absurd h2 (hown x (ei ▸ h1) j gj kj)
        · omega
    hid := fun i g' hg x o v c hh hr => by
      rcases getElem?_snoc hg with hg | ⟨hi, rfl⟩
      · exact h.hid i g' hg x o v c hh hr
      · exact hro x o v c hh hr
    gl := fun n => (h.gl n).mono hx
    fx := fun D hD => by
      obtain ⟨h1, h2, h3⟩ := h.fx D hD
      refine ⟨h1, h2, fun i g' hg => ?_⟩
      rcases getElem?_snoc hg with hg | ⟨hi, rfl⟩
      · exact h3 i g' hg
      · exact fun ho => hfx D ho hD }

/-- a new block with an object of its own -/
theorem Inv.allocObj (h : Inv K G σ w) (o : Obj) {g : GO} {a : AO} (hok : ObjOK K (G.addObj g) (w.alloc o) g a) (hg : ∀ x, g.owns x → x = w.heap.size) :
    Inv K (G.addObj g) (σ ++ [a]) (w.alloc o) := by
  have h1 : Inv K G σ (w.alloc o) := h.keep ((Below.refl _ _).alloc (Nat.le_refl _) _)
  refine h1.addObj hok (fun x hx i g' hg' ho => ?_) (fun x hx hf => ?_) fun x o' v c hh hr => ?_
  · have := (h.owned_lt hg' x ho).2; have := hg x hx; omega
  · have := (Array.getElem?_eq_some_iff.1 (h.fx x hf).2.1).1; have := hg x hx; omega
  · have h2 := cell_lt (h.ro x o' v c hr).1
    have := hg x (hides_owns hh); omega

def Ghost.setObj (G : Ghost) (i : Nat) (g : GO) : Ghost := { G with obj := G.obj.set i g }

theorem Ghost.setObj_ext {G : Ghost} {i : Nat} {g g' : GO} (hg : G.obj[i]? = some g) (hle : g.le g') : Ext G (G.setObj i g') :=
  ⟨fun _ _ _ _ h => h, fun j gj hj => by
    simp only [Ghost.setObj, List.getElem?_set]
    by_cases e : i = j
    · subst e
      rw [hg] at hj; cases hj
      have := (List.getElem?_eq_some_iff.1 hg).1
      exact ⟨g', by simp [this], hle⟩
    · exact ⟨gj, by simp [e, hj], .refl _⟩, fun _ h => h⟩

theorem Ghost.setObj_same (G : Ghost) {i : Nat} {g g' : GO} (hg : G.obj[i]? = some g) : (G.setObj i g').obj[i]? = some g' := by
  have := (List.getElem?_eq_some_iff.1 hg).1
  simp [Ghost.setObj, this]

/-- one object turns: its blocks are written, or it moves to others -/
theorem Inv.changeObj (h : Inv K G σ w) {i : Nat} {g g' : GO} {a : AO} {w' : World} (hg : G.obj[i]? = some g) (hle : g.le g')
    (hother : ∀ k, k < w.heap.size → ¬ g.owns k → w'.heap[k]? = w.heap[k]?) (hos : w'.os = w.os) (htape : w'.tape = w.tape) (hout : w'.output = w.output) (hsz : w.heap.size ≤ w'.heap.size)
    (hcell : ∀ b o v c, G.ro b o v c → g.owns b → w'.cell? ⟨b, o, none⟩ = some v)
    (hok : ObjOK K (G.setObj i g') w' g' a) (hfx : ∀ x, g'.owns x → ¬ G.fx x)
    (hown : ∀ x, g'.owns x → ∀ (j : Nat) gj, j ≠ i → G.obj[j]? = some gj → ¬ gj.owns x)
    (hhid : ∀ x o v c, g'.hides x o → ¬ G.ro x o v c) : Inv K (G.setObj i g') (σ.set i a) w' := by
  have hx := Ghost.setObj_ext hg hle
  have hlt := (List.getElem?_eq_some_iff.1 hg).1
  have hget : ∀ {j : Nat} {gj : GO}, (G.setObj i g').obj[j]? = some gj → (j = i ∧ gj = g') ∨ (j ≠ i ∧ G.obj[j]? = some gj) := fun {j gj} hj => by
    simp only [Ghost.setObj, List.getElem?_set] at hj
    by_cases e : i = j
    · subst e; simp [hlt] at hj; exact .inl ⟨rfl, hj.symm⟩
    · simp [e] at hj; exact .inr ⟨fun e' => e e'.symm, hj⟩
  exact {
    len := by simp [Ghost.setObj, h.len]
    below := h.below.trans ⟨hos, htape, hout, hsz, fun k hk => hother k (by have := h.base; omega) fun ho => by have := (h.owned_lt hg k ho).1; omega⟩
    base := Nat.le_trans h.base hsz
    ro := fun b o v c hr => by
      obtain ⟨h1, h2, h3⟩ := h.ro b o v c hr
      refine ⟨?_, h2.mono hx, h3⟩
      by_cases ho : g.owns b
      · exact hcell b o v c hr ho
      · rw [World.cell?_of_block (w := w) (hother b (cell_lt h1) ho)]; exact h1
    obj := fun j gj a' hg' ha' => by
      rw [List.getElem?_set] at ha'
      rcases hget hg' with ⟨e, e'⟩ | ⟨e, hg'⟩
      · subst e; subst e'
        have hi : j < σ.length := by rw [← h.len]; exact hlt
        simp [hi] at ha'; subst ha'; exact hok
      · rw [if_neg (fun e' => e e'.symm)] at ha'
        refine ((h.obj j gj a' hg' ha').mono hx).world fun x hxo => hother x (h.owned_lt hg' x hxo).2 fun ho => e (h.sep j i gj g x hg' hg hxo ho)
    sep := fun j k gj gk x hj hk h1 h2 => by
      rcases hget hj with ⟨e, e'⟩ | ⟨e, hj'⟩
      · rcases hget hk with ⟨f, f'⟩ | ⟨f, hk'⟩
        · omega
        · exact absurd h2 (hown x (e' ▸ h1) k gk f hk')
      · rcases hget hk with ⟨f, f'⟩ | ⟨f, hk'⟩
        · exact absurd h1 (hown x (f' ▸ h2) j gj e hj')
        · exact h.sep j k gj gk x hj' hk' h1 h2
    hid := fun j gj hj x o v c hh hr => by
      rcases hget hj with ⟨e, e'⟩ | ⟨e, hj⟩
      · subst e'; exact hhid x o v c hh hr
      · exact h.hid j gj hj x o v c hh hr
    gl := fun n => (h.gl n).mono hx
    fx := fun D hD => by
      obtain ⟨h1, h2, h3⟩ := h.fx D hD
      refine ⟨h1, by rw [hother D (Array.getElem?_eq_some_iff.1 h2).1 (h3 i g hg)]; exact h2, fun j gj hj => ?_⟩
      rcases hget hj with ⟨e, e'⟩ | ⟨e, hj⟩
      · subst e'; exact fun ho => hfx D ho hD
      · exact h3 j gj hj }

/-- one object's block is written -/
theorem Inv.setObj (h : Inv K G σ w) {i : Nat} {g : GO} {a : AO} {w' : World} (hg : G.obj[i]? = some g)
    (hother : ∀ k, k < w.heap.size → ¬ g.owns k → w'.heap[k]? = w.heap[k]?) (hos : w'.os = w.os) (htape : w'.tape = w.tape) (hout : w'.output = w.output) (hsz : w.heap.size ≤ w'.heap.size)
    (hcell : ∀ b o v c, G.ro b o v c → g.owns b → w'.cell? ⟨b, o, none⟩ = some v)
    (hok : ObjOK K G w' g a) : Inv K G (σ.set i a) w' where
  len := by simp [h.len]
  below := h.below.trans ⟨hos, htape, hout, hsz, fun k hk => hother k (by have := h.base; omega) fun ho => by have := (h.owned_lt hg k ho).1; omega⟩
  base := Nat.le_trans h.base hsz
  ro := fun b o v c hr => by
    obtain ⟨h1, h2, h3⟩ := h.ro b o v c hr
    refine ⟨?_, h2, h3⟩
    by_cases ho : g.owns b
    · exact hcell b o v c hr ho
    · rw [World.cell?_of_block (w := w) (hother b (cell_lt h1) ho)]; exact h1
  obj := fun j g' a' hg' ha' => by
    rw [List.getElem?_set] at ha'
    by_cases e : i = j
    · subst e
      rw [hg] at hg'; cases hg'
      have hi : i < σ.length := by rw [← h.len]; exact (List.getElem?_eq_some_iff.1 hg).1
      simp [hi] at ha'; subst ha'; exact hok
    · simp [e] at ha'
      refine (h.obj j g' a' hg' ha').world fun x hx => hother x (h.owned_lt hg' x hx).2 fun ho => e (h.sep i j g g' x hg hg' ho hx)
  sep := h.sep
  hid := h.hid
  gl := h.gl
  fx := fun D hD => by
    obtain ⟨h1, h2, h3⟩ := h.fx D hD
    exact ⟨h1, by rw [hother D (Array.getElem?_eq_some_iff.1 h2).1 (h3 i g hg)]; exact h2, h3⟩

end
end Go.Av
