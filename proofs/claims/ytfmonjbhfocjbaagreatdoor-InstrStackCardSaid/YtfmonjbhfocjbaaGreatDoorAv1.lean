/- Values of the abstract evaluator; what they stand for in a world. -/
import Derived.WalkKit
import Derived.CallsIn
import Derived.OrdersIn
import Derived.RangeFuncLeaves
namespace Go.Av
open Go Go.RowKit

inductive Own where
  | nil
  | full
  | any
  | tok (t : Nat)
  deriving DecidableEq

inductive AV where
  | bool (b : Bool)
  | int (k : IntKind) (n : Int)
  | str (s : ByteArray)
  | agg (cs : List AV)
  | tup (cs : List AV)
  | sl (o : Own) (es : Nat) (els : List AV)
  | sa (id off len cap es : Nat)
  | ptr (id off : Nat)
  | nilp
  | rp (row : List AV)
  | fn (f : Fn) (fs cs : List AV)
  | nilf
  | map (m : Nat)
  | nilm
  | ifc (t : TypeId) (x : AV)
  | nili
  | yld (i : Nat)
  | top

instance : Inhabited AV := ⟨.tup []⟩

def AV.undef : AV := .tup []

def AV.cells : AV → List AV
  | .agg cs => cs
  | v => [v]

def AV.isTop : AV → Bool
  | .top => true
  | _ => false

/-- a value that needs nothing of a world -/
def AV.const : AV → Bool
  | .bool _ => true
  | .int _ _ => true
  | .str _ => true
  | .sl o _ els => (match o with | .nil => true | _ => false) && els.isEmpty
  | .nilp => true
  | .nilf => true
  | .nilm => true
  | .nili => true
  | _ => false

/-- one cell's value -/
def AV.flat : AV → Bool
  | .agg _ => false
  | .tup _ => false
  | .top => false
  | _ => true

inductive GO where
  | virt (ty : Nat) (row : List AV)
  | box (b : Nat)
  | tok (b cap es top : Nat)
  | map (b : Nat)
  | loop (b : Nat)

structure Ghost where
  ro : Nat → Nat → Value → AV → Prop
  obj : List GO
  fx : Nat → Prop

def RoRow (G : Ghost) (b o : Nat) (cs : List AV) : Prop := ∀ k c, cs[k]? = some c → ∃ v, G.ro b (o + k) v c

def OwnRep (G : Ghost) : Own → Option Addr → Nat → Nat → Nat → Prop
  | .nil, a, _, _, _ => a = none
  | .full, _, len, cap, _ => cap = len
  | .any, _, _, _, _ => True
  | .tok t, a, len, cap, es => ∃ b c top, G.obj[t]? = some (.tok b c es top) ∧ len ≤ top ∧ (len = top → a = some ⟨b, 0, none⟩ ∧ cap = c)

structure SliceRep (G : Ghost) (o : Own) (es : Nat) (els : List AV) (a : Option Addr) (len cap : Nat) : Prop where
  hlen : len = els.length
  hcap : len ≤ cap
  hnil : a = none → cap = 0
  hes : ∀ (i : Nat) el, els[i]? = some el → el.cells.length = es
  hspot : ∀ x, a = some x → 0 < cap → x.spot = none
  hrow : ∀ x, a = some x → ∀ (i : Nat) el, els[i]? = some el → RoRow G x.block (x.off + i * es) el.cells
  hown : OwnRep G o a len cap es

mutual
def Rep (G : Ghost) : AV → Value → Prop
  | .bool b, v => v = .bool b
  | .int k n, v => v = .int k n
  | .str s, v => v = .string s
  | .agg cs, v => ∃ vs, v = .agg vs ∧ RepL G cs vs.toList
  | .tup cs, v => ∃ vs, v = .tuple vs ∧ RepL G cs vs.toList
  | .sl o es els, v => ∃ a len cap, v = .slice a len cap ∧ SliceRep G o es els a len cap
  | .sa id off len cap _, v => ∃ b, G.obj[id]? = some (.box b) ∧ v = .slice (some ⟨b, off, none⟩) len cap
  | .ptr id off, v => ∃ b, G.obj[id]? = some (.box b) ∧ v = .pointer (some ⟨b, off, none⟩)
  | .nilp, v => v = .pointer none
  | .rp row, v => ∃ b o, v = .pointer (some ⟨b, o, none⟩) ∧ RoRow G b o row
  | .fn f fs cs, v => ∃ a c, v = .func f a c ∧ RepL G fs a.toList ∧ RepL G cs c.toList
  | .nilf, v => v = .nilFunc
  | .map m, v => ∃ b, G.obj[m]? = some (.map b) ∧ v = .map (some b)
  | .nilm, v => v = .map none
  | .ifc t x, v => ∃ u, v = .iface t u ∧ Rep G x u
  | .nili, v => v = .nilIface
  | .yld i, v => ∃ b, G.obj[i]? = some (.loop b) ∧ v = .func (.yield b) #[] #[]
  | .top, _ => True
def RepL (G : Ghost) : List AV → List Value → Prop
  | [], vs => vs = []
  | c :: cs, vs => ∃ v r, vs = v :: r ∧ Rep G c v ∧ RepL G cs r
end

/-- a later ghost state; one that is only foreseen may come to be -/
inductive GO.leV : GO → GO → Prop
  | refl (g : GO) : GO.leV g g
  | virt (ty : Nat) (row : List AV) (g : GO) : GO.leV (.virt ty row) g
  | tok {b c es top b' c' top' : Nat} (h : top < top') : GO.leV (.tok b c es top) (.tok b' c' es top')

inductive GO.le : GO → GO → Prop
  | refl (g : GO) : GO.le g g
  | tok {b c es top b' c' top' : Nat} (h : top < top') : GO.le (.tok b c es top) (.tok b' c' es top')

theorem GO.le.toV {a b : GO} (h : GO.le a b) : GO.leV a b := by
  cases h with
  | refl => exact .refl _
  | tok h => exact .tok h

theorem GO.le.trans {a b c : GO} (h : GO.le a b) (k : GO.le b c) : GO.le a c := by
  cases h with
  | refl => exact k
  | tok h => cases k with
    | refl => exact .tok h
    | tok k => exact .tok (Nat.lt_trans h k)

structure ExtV (G G' : Ghost) : Prop where
  ro : ∀ b o v c, G.ro b o v c → G'.ro b o v c
  obj : ∀ (i : Nat) g, G.obj[i]? = some g → ∃ g', G'.obj[i]? = some g' ∧ g.leV g'

structure Ext (G G' : Ghost) : Prop where
  ro : ∀ b o v c, G.ro b o v c → G'.ro b o v c
  obj : ∀ (i : Nat) g, G.obj[i]? = some g → ∃ g', G'.obj[i]? = some g' ∧ g.le g'
  fx : ∀ D, G.fx D → G'.fx D

theorem Ext.toV {G G' : Ghost} (h : Ext G G') : ExtV G G' := ⟨h.ro, fun i g hg => let ⟨g', h1, h2⟩ := h.obj i g hg; ⟨g', h1, h2.toV⟩⟩

theorem Ext.refl (G : Ghost) : Ext G G := ⟨fun _ _ _ _ h => h, fun _ g h => ⟨g, h, .refl g⟩, fun _ h => h⟩
theorem Ext.trans {a b c : Ghost} (h : Ext a b) (k : Ext b c) : Ext a c :=
  ⟨fun x o v c' hr => k.ro _ _ _ _ (h.ro _ _ _ _ hr), fun i g hg => by
    obtain ⟨g1, h1, l1⟩ := h.obj i g hg
    obtain ⟨g2, h2, l2⟩ := k.obj i g1 h1
    exact ⟨g2, h2, l1.trans l2⟩, fun D hd => k.fx D (h.fx D hd)⟩

theorem ExtV.box {G G' : Ghost} (h : ExtV G G') {i b : Nat} (hb : G.obj[i]? = some (.box b)) : G'.obj[i]? = some (.box b) := by
  obtain ⟨g', h1, l⟩ := h.obj i _ hb; cases l; exact h1
theorem ExtV.map {G G' : Ghost} (h : ExtV G G') {i b : Nat} (hb : G.obj[i]? = some (.map b)) : G'.obj[i]? = some (.map b) := by
  obtain ⟨g', h1, l⟩ := h.obj i _ hb; cases l; exact h1
theorem ExtV.loop {G G' : Ghost} (h : ExtV G G') {i b : Nat} (hb : G.obj[i]? = some (.loop b)) : G'.obj[i]? = some (.loop b) := by
  obtain ⟨g', h1, l⟩ := h.obj i _ hb; cases l; exact h1
theorem ExtV.row {G G' : Ghost} (h : ExtV G G') {b o : Nat} {cs : List AV} (hr : RoRow G b o cs) : RoRow G' b o cs :=
  fun k c hc => let ⟨v, hv⟩ := hr k c hc; ⟨v, h.ro _ _ _ _ hv⟩

theorem OwnRep.monoV {G G' : Ghost} (h : ExtV G G') {o : Own} {a : Option Addr} {len cap es : Nat} (hr : OwnRep G o a len cap es) : OwnRep G' o a len cap es := by
  cases o with
  | nil => exact hr
  | full => exact hr
  | any => exact hr
  | tok t =>
    obtain ⟨b, c, top, h1, h2, h3⟩ := hr
    obtain ⟨g', hg, l⟩ := h.obj t _ h1
    cases l with
    | refl => exact ⟨b, c, top, hg, h2, h3⟩
    | tok hlt => exact ⟨_, _, _, hg, by omega, fun e => by omega⟩

theorem SliceRep.monoV {G G' : Ghost} (h : ExtV G G') {o : Own} {es : Nat} {els : List AV} {a : Option Addr} {len cap : Nat}
    (hr : SliceRep G o es els a len cap) : SliceRep G' o es els a len cap :=
  ⟨hr.hlen, hr.hcap, hr.hnil, hr.hes, hr.hspot, fun x hx i el hel => h.row (hr.hrow x hx i el hel), hr.hown.monoV h⟩

mutual
theorem Rep.monoV {G G' : Ghost} (h : ExtV G G') : ∀ {c : AV} {v : Value}, Rep G c v → Rep G' c v
  | .bool _, _, hr => hr
  | .int _ _, _, hr => hr
  | .str _, _, hr => hr
  | .agg _, _, ⟨vs, e, hl⟩ => ⟨vs, e, RepL.monoV h hl⟩
  | .tup _, _, ⟨vs, e, hl⟩ => ⟨vs, e, RepL.monoV h hl⟩
  | .sl _ _ _, _, ⟨a, len, cap, e, hs⟩ => ⟨a, len, cap, e, hs.monoV h⟩
  | .sa _ _ _ _ _, _, ⟨b, hb, e⟩ => ⟨b, h.box hb, e⟩
  | .ptr _ _, _, ⟨b, hb, e⟩ => ⟨b, h.box hb, e⟩
  | .nilp, _, hr => hr
  | .rp _, _, ⟨b, o, e, hr⟩ => ⟨b, o, e, h.row hr⟩
  | .fn _ _ _, _, ⟨a, c, e, h1, h2⟩ => ⟨a, c, e, RepL.monoV h h1, RepL.monoV h h2⟩
  | .nilf, _, hr => hr
  | .map _, _, ⟨b, hb, e⟩ => ⟨b, h.map hb, e⟩
  | .nilm, _, hr => hr
  | .ifc _ _, _, ⟨u, e, hr⟩ => ⟨u, e, Rep.monoV h hr⟩
  | .nili, _, hr => hr
  | .yld _, _, ⟨b, hb, e⟩ => ⟨b, h.loop hb, e⟩
  | .top, _, hr => hr
theorem RepL.monoV {G G' : Ghost} (h : ExtV G G') : ∀ {cs : List AV} {vs : List Value}, RepL G cs vs → RepL G' cs vs
  | [], _, hr => hr
  | _ :: _, _, ⟨v, r, e, h1, h2⟩ => ⟨v, r, e, Rep.monoV h h1, RepL.monoV h h2⟩
end

theorem Ext.box {G G' : Ghost} (h : Ext G G') {i b : Nat} (hb : G.obj[i]? = some (.box b)) : G'.obj[i]? = some (.box b) := h.toV.box hb
theorem Ext.map {G G' : Ghost} (h : Ext G G') {i b : Nat} (hb : G.obj[i]? = some (.map b)) : G'.obj[i]? = some (.map b) := h.toV.map hb
theorem Ext.loop {G G' : Ghost} (h : Ext G G') {i b : Nat} (hb : G.obj[i]? = some (.loop b)) : G'.obj[i]? = some (.loop b) := h.toV.loop hb
theorem Ext.row {G G' : Ghost} (h : Ext G G') {b o : Nat} {cs : List AV} (hr : RoRow G b o cs) : RoRow G' b o cs := h.toV.row hr
theorem OwnRep.mono {G G' : Ghost} (h : Ext G G') {o : Own} {a : Option Addr} {len cap es : Nat} (hr : OwnRep G o a len cap es) : OwnRep G' o a len cap es := hr.monoV h.toV
theorem SliceRep.mono {G G' : Ghost} (h : Ext G G') {o : Own} {es : Nat} {els : List AV} {a : Option Addr} {len cap : Nat}
    (hr : SliceRep G o es els a len cap) : SliceRep G' o es els a len cap := hr.monoV h.toV
theorem Rep.mono {G G' : Ghost} (h : Ext G G') {c : AV} {v : Value} (hr : Rep G c v) : Rep G' c v := Rep.monoV h.toV hr
theorem RepL.mono {G G' : Ghost} (h : Ext G G') {cs : List AV} {vs : List Value} (hr : RepL G cs vs) : RepL G' cs vs := RepL.monoV h.toV hr

theorem RepL.length {G : Ghost} : ∀ {cs : List AV} {vs : List Value}, RepL G cs vs → cs.length = vs.length
  | [], vs, hr => by rw [show vs = [] from hr]; rfl
  | _ :: cs, _, ⟨v, r, e, _, h2⟩ => by subst e; simp [RepL.length h2]

theorem RepL.get {G : Ghost} : ∀ {cs : List AV} {vs : List Value}, RepL G cs vs → ∀ (i : Nat) c, cs[i]? = some c → ∃ v, vs[i]? = some v ∧ Rep G c v
  | [], _, _, i, c, hc => by simp at hc
  | c0 :: cs, _, ⟨v, r, e, h1, h2⟩, 0, c, hc => by subst e; simp at hc; subst hc; exact ⟨v, rfl, h1⟩
  | c0 :: cs, _, ⟨v, r, e, h1, h2⟩, i + 1, c, hc => by
    subst e; simp at hc
    obtain ⟨u, hu, hr⟩ := RepL.get h2 i c hc
    exact ⟨u, by simpa using hu, hr⟩

theorem RepL.get' {G : Ghost} : ∀ {cs : List AV} {vs : List Value}, RepL G cs vs → ∀ (i : Nat) v, vs[i]? = some v → ∃ c, cs[i]? = some c ∧ Rep G c v
  | [], _, h, i, c, hc => by rw [show _ = ([] : List Value) from h] at hc; simp at hc
  | c0 :: cs, _, ⟨v, r, e, h1, h2⟩, 0, c, hc => by subst e; simp at hc; subst hc; exact ⟨c0, rfl, h1⟩
  | c0 :: cs, _, ⟨v, r, e, h1, h2⟩, i + 1, c, hc => by
    subst e; simp at hc
    obtain ⟨u, hu, hr⟩ := RepL.get' h2 i c hc
    exact ⟨u, by simpa using hu, hr⟩

theorem RepL.of_get {G : Ghost} : ∀ {cs : List AV} {vs : List Value}, cs.length = vs.length → (∀ (i : Nat) c v, cs[i]? = some c → vs[i]? = some v → Rep G c v) → RepL G cs vs
  | [], [], _, _ => rfl
  | [], _ :: _, h, _ => by simp at h
  | _ :: _, [], h, _ => by simp at h
  | c :: cs, v :: vs, h, hr => ⟨v, vs, rfl, hr 0 c v rfl rfl, RepL.of_get (by simpa using h) fun i c' v' h1 h2 => hr (i + 1) c' v' (by simpa using h1) (by simpa using h2)⟩

theorem RepL.nil {G : Ghost} : RepL G [] [] := rfl
theorem RepL.cons {G : Ghost} {c : AV} {v : Value} {cs : List AV} {vs : List Value} (h1 : Rep G c v) (h2 : RepL G cs vs) : RepL G (c :: cs) (v :: vs) := ⟨v, vs, rfl, h1, h2⟩
theorem RepL.append {G : Ghost} : ∀ {cs : List AV} {vs : List Value} {ds : List AV} {us : List Value}, RepL G cs vs → RepL G ds us → RepL G (cs ++ ds) (vs ++ us)
  | [], _, _, _, h1, h2 => by rw [show _ = ([] : List Value) from h1]; exact h2
  | _ :: _, _, _, _, ⟨v, r, e, h3, h4⟩, h2 => by subst e; exact ⟨v, _, rfl, h3, RepL.append h4 h2⟩
theorem RepL.take {G : Ghost} : ∀ (n : Nat) {cs : List AV} {vs : List Value}, RepL G cs vs → RepL G (cs.take n) (vs.take n)
  | 0, _, _, _ => by simp [RepL]
  | _ + 1, [], _, h => by rw [show _ = ([] : List Value) from h]; simp [RepL]
  | n + 1, _ :: _, _, ⟨v, r, e, h3, h4⟩ => by subst e; exact ⟨v, _, rfl, h3, RepL.take n h4⟩
theorem RepL.drop {G : Ghost} : ∀ (n : Nat) {cs : List AV} {vs : List Value}, RepL G cs vs → RepL G (cs.drop n) (vs.drop n)
  | 0, _, _, h => by simpa using h
  | _ + 1, [], _, h => by rw [show _ = ([] : List Value) from h]; simp [RepL]
  | n + 1, _ :: _, _, ⟨v, r, e, h3, h4⟩ => by subst e; simpa using RepL.drop n h4

theorem RepL.set {G : Ghost} {cs : List AV} {vs : List Value} (h : RepL G cs vs) {i : Nat} {c : AV} {v : Value} (hr : Rep G c v) : RepL G (cs.set i c) (vs.set i v) := by
  refine RepL.of_get (by simpa using h.length) fun j c' v' h1 h2 => ?_
  rw [List.getElem?_set] at h1 h2
  by_cases e : i = j
  · subst e
    have hl := h.length
    by_cases hi : i < cs.length
    · simp [hi] at h1; simp [hl ▸ hi] at h2; subst h1; subst h2; exact hr
    · simp [hi] at h1
  · simp [e] at h1 h2
    obtain ⟨u, hu, hr'⟩ := h.get j c' h1
    rw [hu] at h2; cases h2; exact hr'

/-- one cell's value, in the model -/
theorem Rep.one {G : Ghost} {c : AV} {v : Value} (h : Rep G c v) (hf : c.flat = true) : v.oneCell' = true ∧ v.cells = #[v] := by
  cases c with
  | bool b => subst h; exact ⟨rfl, rfl⟩
  | int k n => subst h; exact ⟨rfl, rfl⟩
  | str s => subst h; exact ⟨rfl, rfl⟩
  | agg cs => simp [AV.flat] at hf
  | tup cs => simp [AV.flat] at hf
  | sl o es els => obtain ⟨a, l, c, rfl, _⟩ := h; exact ⟨rfl, rfl⟩
  | sa id off len cap es => obtain ⟨b, _, rfl⟩ := h; exact ⟨rfl, rfl⟩
  | ptr id off => obtain ⟨b, _, rfl⟩ := h; exact ⟨rfl, rfl⟩
  | nilp => subst h; exact ⟨rfl, rfl⟩
  | rp row => obtain ⟨b, o, rfl, _⟩ := h; exact ⟨rfl, rfl⟩
  | fn f fs cs => obtain ⟨a, c, rfl, _⟩ := h; exact ⟨rfl, rfl⟩
  | nilf => subst h; exact ⟨rfl, rfl⟩
  | map m => obtain ⟨b, _, rfl⟩ := h; exact ⟨rfl, rfl⟩
  | nilm => subst h; exact ⟨rfl, rfl⟩
  | ifc t x => obtain ⟨u, rfl, _⟩ := h; exact ⟨rfl, rfl⟩
  | nili => subst h; exact ⟨rfl, rfl⟩
  | yld i => obtain ⟨b, _, rfl⟩ := h; exact ⟨rfl, rfl⟩
  | top => simp [AV.flat] at hf

/-- the cells of a value -/
theorem Rep.cells {G : Ghost} {c : AV} {v : Value} (h : Rep G c v) (ht : c.isTop = false) : RepL G c.cells v.cells.toList := by
  by_cases hf : c.flat = true
  · have h1 := (h.one hf).2
    rw [h1]
    have : c.cells = [c] := by cases c <;> first | rfl | simp [AV.flat] at hf
    rw [this]
    exact ⟨v, [], rfl, h, rfl⟩
  · cases c <;> first | (exact absurd rfl hf) | (simp [AV.isTop] at ht; done) | skip
    · obtain ⟨vs, rfl, hl⟩ := h; exact hl
    · have h' := h
      obtain ⟨vs, rfl, hl⟩ := h'
      exact ⟨_, [], rfl, h, rfl⟩

theorem isTop_of_flat {c : AV} (h : c.cells.all AV.flat = true) : c.isTop = false := by
  cases c <;> first | rfl | simp [AV.cells, AV.flat] at h

end Go.Av
