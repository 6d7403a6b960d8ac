/-
  The 28 names: the list; what the package-level variable holds; the iterator's contract; the reference's Names.
-/
import Derived.Test.YtmjnjjjhdcecbaaDoorD
import Derived.RangeFuncNested
import Derived.RangeFuncBound
import Derived.RangeFuncCalls
import Derived.RangeFuncLeaves
import Derived.Shelf.Abstract
import Derived.Shelf.RegionOpen
import Derived.OwnWalkIn
import Derived.TacticsInMore
import Derived.LoopNIn
import Derived.LoopIn
import Derived.Laws.Rows
namespace Go.Proofs.YtmjnjjjhdcecbaaDoor
open Go.RowKit Go.Shelf

/-- The names that may not be trailers. -/
def namesL : List ByteArray := [
  ⟨#[65, 117, 116, 104, 111, 114, 105, 122, 97, 116, 105, 111, 110]⟩,
  ⟨#[67, 97, 99, 104, 101, 45, 67, 111, 110, 116, 114, 111, 108]⟩,
  ⟨#[67, 111, 110, 110, 101, 99, 116, 105, 111, 110]⟩,
  ⟨#[67, 111, 110, 116, 101, 110, 116, 45, 69, 110, 99, 111, 100, 105, 110, 103]⟩,
  ⟨#[67, 111, 110, 116, 101, 110, 116, 45, 76, 101, 110, 103, 116, 104]⟩,
  ⟨#[67, 111, 110, 116, 101, 110, 116, 45, 82, 97, 110, 103, 101]⟩,
  ⟨#[67, 111, 110, 116, 101, 110, 116, 45, 84, 121, 112, 101]⟩,
  ⟨#[67, 111, 111, 107, 105, 101]⟩,
  ⟨#[69, 120, 112, 101, 99, 116]⟩,
  ⟨#[72, 111, 115, 116]⟩,
  ⟨#[73, 102, 45, 77, 97, 116, 99, 104]⟩,
  ⟨#[73, 102, 45, 77, 111, 100, 105, 102, 105, 101, 100, 45, 83, 105, 110, 99, 101]⟩,
  ⟨#[73, 102, 45, 78, 111, 110, 101, 45, 77, 97, 116, 99, 104]⟩,
  ⟨#[73, 102, 45, 82, 97, 110, 103, 101]⟩,
  ⟨#[73, 102, 45, 85, 110, 109, 111, 100, 105, 102, 105, 101, 100, 45, 83, 105, 110, 99, 101]⟩,
  ⟨#[75, 101, 101, 112, 45, 65, 108, 105, 118, 101]⟩,
  ⟨#[77, 97, 120, 45, 70, 111, 114, 119, 97, 114, 100, 115]⟩,
  ⟨#[80, 114, 97, 103, 109, 97]⟩,
  ⟨#[80, 114, 111, 120, 121, 45, 65, 117, 116, 104, 101, 110, 116, 105, 99, 97, 116, 101]⟩,
  ⟨#[80, 114, 111, 120, 121, 45, 65, 117, 116, 104, 111, 114, 105, 122, 97, 116, 105, 111, 110]⟩,
  ⟨#[80, 114, 111, 120, 121, 45, 67, 111, 110, 110, 101, 99, 116, 105, 111, 110]⟩,
  ⟨#[82, 97, 110, 103, 101]⟩,
  ⟨#[83, 101, 116, 45, 67, 111, 111, 107, 105, 101]⟩,
  ⟨#[84, 69]⟩,
  ⟨#[84, 114, 97, 105, 108, 101, 114]⟩,
  ⟨#[84, 114, 97, 110, 115, 102, 101, 114, 45, 69, 110, 99, 111, 100, 105, 110, 103]⟩,
  ⟨#[85, 112, 103, 114, 97, 100, 101]⟩,
  ⟨#[87, 87, 87, 45, 65, 117, 116, 104, 101, 110, 116, 105, 99, 97, 116, 101]⟩]
theorem namesL_len : namesL.length = 28 := rfl

/-- The package-level variable holds the names. -/
def Tab (w : World) : Prop := ∃ c t, w.heap[0]? = some (.cells c t (0, 0)) ∧ c.size = 28 ∧ ∀ j, j < 28 → c[j]? = some (.string (namesL.getD j ByteArray.empty))
theorem Tab.kept {w w' : World} {B : Nat} (h : Tab w) (hb : Below B w w') (hB : 0 < B) : Tab w' := by
  obtain ⟨c, t, h1, h2⟩ := h
  exact ⟨c, t, (hb.block 0 hB).trans h1, h2⟩

theorem names_any (w : World) : Calls Tryd.prog 11 #[] w fun e w' => e = .returned (.func (.func 20) #[] #[]) ∧ w = w' := by
  go_enter Tryd.func11, Tryd.ntmps11
  go_wp2
  go_ret
  exact ⟨rfl, rfl⟩

theorem index_at (c : Array Value) (k : Nat) (v : Value) (hk : k < 28) (hv : c[k]? = some v) (w : World) :
    (Instr.index 40 (.agg c) (.int .i64 k)).run Tryd.prog w = .ok v w := by
  have hagg : (isAgg 9).run Tryd.prog w = .ok false w := by kernel_rfl
  have hsz : (sizeOf 9).run Tryd.prog w = .ok 1 w := by kernel_rfl
  have hu : (underlying 40).run Tryd.prog w = .ok (.array 28 9) w := run_underlying Tryd.underlying40 w
  unfold Instr.index
  simp only [Sem.run_bind, asIntOf, Sem.run_pure, Result.andThen_ok, hu]
  rw [if_pos (by omega)]
  simp [Sem.run_bind, hsz, part, hagg, hv, Result.andThen]

/-- A whole array, loaded: the fenced twin of the library's 'wpList_load_row'. -/
theorem wpListIn_load_row {F : Fence} {n : Nat} {P : Program} {ops : Array Oper} {rest : List Oper} {o : Oper} {a : Act} {w : World} {Q : Exit → Act → World → Prop} (hgd : o.guard = none) (ty : TypeId) (x : Operand) (ho : o.op = .load ty x)
    (g : Nat) (hx : a.eval x = .pointer (some ⟨g, 0, none⟩)) (t : TypeId) (cs : Array Value) (fr : Nat × Nat) (d : TypeDesc) (hg : w.heap[g]? = some (.cells cs t fr))
    (hu : P.underlying ty = some d) (hd : (match d with | .struct _ | .array _ _ => true | _ => false) = true) (hi : (P.info? ty).map (·.size) = some cs.size)
    (h : wpListIn F n P ops Q rest (a.put o.dst (.agg cs)) w) : wpListIn F n P ops Q (o :: rest) a w := by
  refine wpListIn_plain hgd fun K hK' => ?_
  unfold Oper.wpIn
  refine ⟨?_, ?_⟩
  · simp [Oper.about, ho]
  · rw [Oper.semAt_plain F _ _ (by rw [ho]; intro c hc'; cases hc')]
    unfold execOp
    simp only [ho, hx, Instr.loadAt, Instr.sureAddr, Sem.run_bind, Sem.run_pure, Result.andThen_ok, run_loadVar_row w g t ty cs fr d hg hu hd hi]
    exact hK' _ _ h

/-- A name of the list. -/
abbrev Name28 := { x : ByteArray // x ∈ namesL }
def namesA : List Name28 := namesL.attach
theorem namesA_len : namesA.length = 28 := by unfold namesA; rw [List.length_attach]; rfl
theorem namesA_map : namesA.map (·.1) = namesL := by
  unfold namesA
  simp
theorem namesA_at (k : Nat) (h : k < namesA.length) : (namesA[k]).1 = namesL.getD k ByteArray.empty := by
  have e : (namesA.map (·.1))[k]? = namesL[k]? := by rw [namesA_map]
  rw [List.getElem?_map, List.getElem?_eq_getElem h] at e
  simp only [List.getD, ← e, Option.map_some, Option.getD_some]

set_option maxRecDepth 100000 in
set_option maxHeartbeats 1000000 in
theorem names_stops (F : Fence) (n : Nat) (h20 : F.fn 20) (hro : F.round = none) (hn : 1 ≤ n) (n₀ : Nat) (w : World) (hT : Tab w) (hn0 : 0 < w.heap.size) :
    SeqStopsK F n Tryd.prog 20 #[] (fun x : Name28 => #[.string x.1]) (Below n₀) (fun xs => xs = namesA) (fun pre => pre <+: namesA) 28 w := fun l J Jx W hW hJ hJx hY h0 => by
  obtain ⟨c, t, hc0, hcs, hcv⟩ := hT.kept hW hn0
  have hsz : (Tryd.prog.info? 40).map (·.size) = some c.size := by rw [hcs]; kernel_rfl
  have hex : ∀ k, k < 28 → ∃ x : Name28, namesA.take (k + 1) = namesA.take k ++ [x] ∧ c[k]? = some (.string x.1) := fun k hk => by
    have hk' : k < namesA.length := by rw [namesA_len]; exact hk
    refine ⟨namesA[k], List.take_succ_eq_append_getElem hk', ?_⟩
    rw [namesA_at k hk']
    exact hcv k hk
  have hl28 : namesA.take 28 = namesA := List.take_of_length_le (by rw [namesA_len]; omega)
  have hlen : ∀ k, k ≤ 28 → (namesA.take k).length = k := fun k hk => by rw [List.length_take, namesA_len]; omega
  have hpre : ∀ k, namesA.take k <+: namesA := fun k => List.take_prefix _ _
  have hidx := fun (k : Nat) (hk : k < 28) v hv w => index_at c k v hk hv w
  generalize namesA = NL at *
  have HX := Lib.hid hex
  have HL := Lib.hid hl28
  have HN := Lib.hid hlen
  have HP := Lib.hid hpre
  have HI := Lib.hid hidx
  have HY := Lib.hid hY
  clear hex hl28 hlen hpre hidx hY hcs hcv
  refine callsIn_of_wp Tryd.func20 rfl h20 ?_ hro
  simp only [Tryd.ntmps20, List.size_toArray, List.length_cons, List.length_nil, Nat.reduceAdd, Nat.reduceSub, Array.replicate_succ, Array.replicate_zero, List.push_toArray, List.append_toArray, List.nil_append, List.cons_append]
  gi_wp2_with (refine wpListIn_load_row rfl 40 (.global 0) rfl 0 rfl t c (0, 0) _ hc0 Tryd.underlying40 rfl hsz ?_)
  gi_loopw [5] (fun i wr => ∃ k : Nat, i = .int .i64 k ∧ k ≤ 28 ∧ J (NL.take k) wr) (fun i _ => 28 - (intOf i).toNat)
  case atStart => exact ⟨0, rfl, by omega, h0⟩
  case round =>
    obtain ⟨k, rfl, hk, hJs⟩ := hrel
    by_cases hlt : k < 28
    · obtain ⟨x, hx, hxc⟩ := HX.out k hlt
      have hi := HI.out k hlt _ hxc
      obtain ⟨fn, tmps, assign, body, hy, hR⟩ := HY.out (NL.take k) x wr hJs (by rw [HN.out k (by omega)]; exact hlt)
      have HTk := Lib.hid hx
      clear hx hxc
      gi_wp2
      refine hR.mono ?_
      rintro e W3 (⟨rfl, hJ3, _⟩ | ⟨rfl, hJx3⟩)
      · gi_wp2
        go_roundw
        case rel => exact ⟨k + 1, by go_num, by omega, by rw [HTk.out]; exact hJ3⟩
        case measure => simp [intOf]; omega
      · gi_wp2
        refine bodyPost_ret (results_none rfl _ _ _) rfl ?_
        exact ⟨⟨_, rfl⟩, .inr ⟨NL.take (k + 1), HP.out _, by rw [HTk.out]; exact hJx3⟩⟩
    · obtain rfl : k = 28 := by omega
      gi_wp2
      go_end0
      exact ⟨⟨_, rfl⟩, .inl ⟨NL, rfl, by rw [HL.out] at hJs; exact hJs⟩⟩
end Go.Proofs.YtmjnjjjhdcecbaaDoor
