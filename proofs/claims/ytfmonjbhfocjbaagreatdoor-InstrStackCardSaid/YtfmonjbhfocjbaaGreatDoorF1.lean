import Derived.Test.YtfmonjbhfocjbaaGreatDoorTS
import Derived.Test.YtfmonjbhfocjbaaGreatDoorRows
import Derived.Stop.LaidErr
import Derived.Lib.LaidTab
namespace Go.Av.X
open Go Go.Proofs Go.RowKit

/-- what the contracts of the library ask of the world -/
structure Facts (W : World) : Prop where
  size : Tryz.prog.globals.size ≤ W.heap.size
  max : ∃ m, W.cell? ⟨0, 0, none⟩ = some (.int .i64 m)
  tab : Lib.TabIs Tryz.prog W "internal/strconv.uint64pow10" .u64 Lib.pow10Tab
  syn : ∃ tp p, W.var? Tryz.prog "strconv.ErrSyntax" = some #[.iface tp p]
  rng : ∃ tp p, W.var? Tryz.prog "strconv.ErrRange" = some #[.iface tp p]

theorem var_below {P : Program} {W W' : World} {B : Nat} (h : Below B W W') {n : String} {g : Nat} (hg : P.globalNamed n = some g) (hB : g < B) : W'.var? P n = W.var? P n := by
  simp only [World.var?, hg, Option.bind_some]
  rw [h.block g hB]

theorem Facts.below {W W' : World} {B : Nat} (h : Facts W) (hb : Below B W W') (hB : Tryz.prog.globals.size ≤ B) : Facts W' := by
  have g8 : Tryz.prog.globals.size = 8 := by kernel_rfl
  have hB' : 8 ≤ B := g8 ▸ hB
  refine ⟨?_, ?_, ?_, ?_, ?_⟩
  · exact Nat.le_trans h.size hb.size
  · obtain ⟨m, hm⟩ := h.max
    exact ⟨m, by rw [World.cell?_of_block (w := W) (hb.block 0 (by omega))]; exact hm⟩
  · have := h.tab
    unfold Lib.TabIs at this ⊢
    rw [var_below hb (g := 1) (by kernel_rfl) (by omega)]; exact this
  · obtain ⟨tp, p, hm⟩ := h.syn
    exact ⟨tp, p, by rw [var_below hb (g := 2) (by kernel_rfl) (by omega)]; exact hm⟩
  · obtain ⟨tp, p, hm⟩ := h.rng
    exact ⟨tp, p, by rw [var_below hb (g := 3) (by kernel_rfl) (by omega)]; exact hm⟩

theorem var_some {P : Program} {W : World} {n : String} {cs : Array Value} {g : Nat} (hg : P.globalNamed n = some g) (h : W.var? P n = some cs) : g < W.heap.size := by
  simp only [World.var?, hg, Option.bind_some] at h
  rcases Nat.lt_or_ge g W.heap.size with h1 | h1
  · exact h1
  · rw [Array.getElem?_eq_none h1] at h; cases h

theorem star : "*" ++ "errors.errorString" = "*errors.errorString" := by decide
theorem row337 (u : TypeId) (h : Tryz.prog.typeName? 3 u = some "*errors.errorString") : u = 337 :=
  typeName_ptr_named (nm := "errors.errorString") (by rw [star]; kernel_rfl) (by kernel_rfl) (by decide) u (by rw [star]; exact h)

theorem facts_open {W : World} (hL : laidMetH Tryz.prog YtfmonjbhfocjbaaGreatDoor.Rows.instrStackRow.laid W) (hS : W.ShapedOpen Tryz.prog) : Facts W := by
  have h0 : laidMet Tryz.prog YtfmonjbhfocjbaaGreatDoor.Rows.instrStackRow.laid W := hL
  have h1 := h0.tail
  have h2 := h1.tail
  have h3 := h2.tail
  have h4 := h3.tail
  have h5 := h4.tail
  refine ⟨?_, ?_, ?_, ?_, ?_⟩
  · obtain ⟨ps, ⟨g, t, cs, fuel, p, q, hg, _, hv, _⟩, _⟩ := h1
    have g8 : Tryz.prog.globals.size = 8 := by kernel_rfl
    have := var_some (g := 7) (by kernel_rfl) hv
    omega
  · exact Tryz.laysM144.s1_3 W hS
  · exact Lib.tabIs_of_head (g := 1) (t := 307) (e := 280) (n := 20) (by kernel_rfl) (by kernel_rfl) (by kernel_rfl) (by kernel_rfl) (by kernel_rfl) (by kernel_rfl) h2
  · obtain ⟨a, s, hv, _⟩ := laid_sentinel (g := 2) h5 (by kernel_rfl) (by kernel_rfl) Tryz.underlying127 row337 Tryz.underlying337 Tryz.underlying339 rfl rfl Tryz.underlying9 (by kernel_rfl) (by kernel_rfl)
    exact ⟨_, _, hv⟩
  · obtain ⟨a, s, hv, _⟩ := laid_sentinel (g := 3) h4 (by kernel_rfl) (by kernel_rfl) Tryz.underlying127 row337 Tryz.underlying337 Tryz.underlying339 rfl rfl Tryz.underlying9 (by kernel_rfl) (by kernel_rfl)
    exact ⟨_, _, hv⟩
end Go.Av.X
