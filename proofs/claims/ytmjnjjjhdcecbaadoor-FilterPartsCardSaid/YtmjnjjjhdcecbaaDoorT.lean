/-
  The frame of a law over the two package-level tables: what the rows' list gives; a world for the witness.
-/
import Derived.Test.YtmjnjjjhdcecbaaDoorCards
import Derived.Test.YtmjnjjjhdcecbaaDoorTie
import Derived.Test.YtmjnjjjhdcecbaaDoorK
import Derived.Test.YtmjnjjjhdcecbaaDoorE
import Derived.OpenShut
import Derived.Deep.DeepHandedRow
import Derived.Lib.LaidTab
namespace Go.Proofs.YtmjnjjjhdcecbaaDoor
open Go.ChangeShapes Go.WideShapes Go.ChangeAt Go.RowKit

theorem gEnds : Tryd.prog.globalNamed "catchpit/octet.ends" = some 1 := by kernel_rfl
theorem gEndsType : (Tryd.prog.globals[1]?).map (·.type) = some 48 := by kernel_rfl
theorem gNames : Tryd.prog.globalNamed "catchpit/filter.names" = some 0 := by kernel_rfl
theorem gNamesType : (Tryd.prog.globals[0]?).map (·.type) = some 40 := by kernel_rfl
theorem names_datum : Rows.laid_catchpit_filter_names = .agg (namesL.map fun s => (.lit (.string s.data.toList) : DataW Unit)) := rfl

theorem var_block {w : World} {n : String} {g : Nat} {cs : Array Value} (hg : Tryd.prog.globalNamed n = some g) (h : w.var? Tryd.prog n = some cs) : ∃ t fr, w.heap[g]? = some (.cells cs t fr) := by
  unfold World.var? at h
  rw [hg] at h
  simp only [Option.bind_some] at h
  split at h
  · rename_i cs' t fr e
    simp only [Option.some.injEq] at h
    subst h
    exact ⟨t, fr, e⟩
  · cases h

theorem list2 {α : Type} {l : List α} (h : l.length = 2) : ∃ a b, l = [a, b] := by
  match l, h with
  | [a, b], _ => exact ⟨a, b, rfl⟩
theorem list3 {α : Type} {l : List α} (h : l.length = 3) : ∃ a b c, l = [a, b, c] := by
  match l, h with
  | [a, b, c], _ => exact ⟨a, b, c, rfl⟩
theorem list6 {α : Type} {l : List α} (h : l.length = 6) : ∃ a b c d e f, l = [a, b, c, d, e, f] := by
  match l, h with
  | [a, b, c, d, e, f], _ => exact ⟨a, b, c, d, e, f, rfl⟩

theorem tables {W : World} (h0 : laidMetH Tryd.prog [("catchpit/octet.ends", Rows.laid_catchpit_octet_ends), ("catchpit/filter.names", Rows.laid_catchpit_filter_names)] W) : Ends W ∧ Tab W ∧ 1 < W.heap.size := by
  have h : laidMet Tryd.prog [("catchpit/octet.ends", Rows.laid_catchpit_octet_ends), ("catchpit/filter.names", Rows.laid_catchpit_filter_names)] W := h0
  obtain ⟨ps, ⟨g, t, cs, fuel, p, q, hg, ht, hvar, hd, ⟨g', t', cs', fuel', p', q', hg', ht', hvar', hd', _, hq⟩, hps⟩, _, hcells⟩ := h
  obtain rfl := Option.some.inj (gEnds.symm.trans hg)
  obtain rfl := Option.some.inj (gEndsType.symm.trans ht)
  obtain rfl := Option.some.inj (gNames.symm.trans hg')
  obtain rfl := Option.some.inj (gNamesType.symm.trans ht')
  obtain ⟨te, fre, hbe⟩ := var_block gEnds hvar
  obtain ⟨tn, frn, hbn⟩ := var_block gNames hvar'
  refine ⟨?_, ?_, lt_of_block hbe⟩
  · obtain ⟨xs, m, _, hx, hl, hxl, hat⟩ := DataW.trod_array Tryd.underlying48 hd
    simp only [Rows.laid_catchpit_octet_ends, Prod.mk.injEq, DataW.agg.injEq] at hx
    have h1 := hat 1 (by omega)
    have e47 : Tryd.prog.cellsOf 47 = 2 := by kernel_rfl
    have e48 : Tryd.prog.cellsOf 48 = 6 := by kernel_rfl
    have e5 : Tryd.prog.cellsOf 5 = 1 := by kernel_rfl
    rw [e48] at hl
    rw [e47] at h1
    have hxs : xs.map (·.1) = [DataW.agg [.lit (.int .u8 48), .lit (.int .u8 57)], .agg [.lit (.int .u8 65), .lit (.int .u8 90)], .agg [.lit (.int .u8 97), .lit (.int .u8 122)]] := hx.1.symm
    obtain ⟨y0, y1, y2, rfl⟩ := list3 hxl
    simp only [List.map_cons, List.map_nil, List.cons.injEq] at hxs
    obtain ⟨zs, m', _, hz, hl', hzl, hat'⟩ := DataW.trod_array Tryd.underlying47 (show DataW.trod (fun _ => ()) Tryd.prog W 0 (fun _ => true) false m 47 _ = some y1 from h1)
    have hz1 : zs.map (·.1) = [(.lit (.int .u8 65) : DataW Unit), .lit (.int .u8 90)] := by
      have := hxs.2.1
      rw [hz] at this
      simpa using this
    obtain ⟨z0, z1, rfl⟩ := list2 hzl
    simp only [List.map_cons, List.map_nil, List.cons.injEq] at hz1
    have a0 := hat' 0 (by omega)
    have a1 := hat' 1 (by omega)
    rw [e5] at a0 a1
    obtain ⟨x0, g0, r0, _⟩ := DataW.trod_int Tryd.underlying5 (show DataW.trod (fun _ => ()) Tryd.prog W 0 (fun _ => true) false m' 5 _ = some z0 from a0)
    obtain ⟨x1, g1, r1, _⟩ := DataW.trod_int Tryd.underlying5 (show DataW.trod (fun _ => ()) Tryd.prog W 0 (fun _ => true) false m' 5 _ = some z1 from a1)
    rw [r0, r1] at hz1
    simp only [DataW.lit.injEq, Lit.int.injEq, true_and, and_true] at hz1
    obtain ⟨rfl, rfl⟩ := hz1
    obtain ⟨l⟩ := cs
    obtain ⟨c0, c1, c2, c3, c4, c5, rfl⟩ := list6 (show l.length = 6 from hl)
    simp at g0 g1
    subst g0 g1
    exact ⟨by simp [World.cell?, hbe], by simp [World.cell?, hbe]⟩
  · obtain ⟨xs, m, _, hx, hl, hxl, hat⟩ := DataW.trod_array Tryd.underlying40 hd'
    rw [names_datum] at hx
    simp only [Prod.mk.injEq, DataW.agg.injEq] at hx
    have e40 : Tryd.prog.cellsOf 40 = 28 := by kernel_rfl
    have e9 : Tryd.prog.cellsOf 9 = 1 := by kernel_rfl
    rw [e40] at hl
    have hl' : cs'.size = 28 := by simpa using hl
    have hfr : frn = (0, 0) := by
      obtain ⟨⟨c, t, hc⟩, _⟩ := hcells 0 0 (by
        rw [hps, hq]
        refine List.mem_append_right _ (List.mem_append_left _ (List.mem_append_left _ ?_))
        exact MemPlace.mem_row.2 ⟨0, by omega, rfl⟩)
      rw [hbn] at hc
      simp only [Option.some.injEq, Obj.cells.injEq] at hc
      exact hc.2.2
    subst hfr
    refine ⟨cs', tn, hbn, hl', fun j hj => ?_⟩
    have hj' : j < xs.length := by omega
    have a := hat j hj
    rw [e9, Nat.mul_one, List.getElem?_eq_getElem hj'] at a
    obtain ⟨s, g0, r0, _⟩ := DataW.trod_string Tryd.underlying9 a
    have hxj : (xs.map (·.1))[j]? = (namesL.map fun s => (.lit (.string s.data.toList) : DataW Unit))[j]? := by rw [hx.1]
    have hn : j < namesL.length := by rw [namesL_len]; exact hj
    rw [List.getElem?_map, List.getElem?_map, List.getElem?_eq_getElem hj', List.getElem?_eq_getElem hn, r0] at hxj
    simp only [Option.map_some, Option.some.injEq, DataW.lit.injEq, Lit.string.injEq] at hxj
    have hs : s = namesL[j] := by
      have : s.data = (namesL[j]).data := Array.toList_inj.1 hxj
      cases s
      simp_all
    have hcj : cs'[j]? = some (.string s) := by
      have := congrArg (·[0]?) g0
      simpa [List.getElem?_take, List.getElem?_drop] using this
    rw [hcj, hs]
    simp [List.getD, List.getElem?_eq_getElem hn]

def putNames : Obj → Obj
  | .cells _ t frozen => .cells (namesL.map Value.string).toArray t frozen
  | o => o
def putEnds : Obj → Obj
  | .cells _ t frozen => .cells #[.int .u8 48, .int .u8 57, .int .u8 65, .int .u8 90, .int .u8 97, .int .u8 122] t frozen
  | o => o
/-- A WORLD FOR THE WITNESS: the settled one, the two tables holding what their initialisers lay. -/
noncomputable def laidWorld (os : Os) : World :=
  { World.holding Tryd.prog os ⟨#[], #[], []⟩ with heap := ((World.holding Tryd.prog os ⟨#[], #[], []⟩).heap.modify 0 putNames).modify 1 putEnds }
end Go.Proofs.YtmjnjjjhdcecbaaDoor
