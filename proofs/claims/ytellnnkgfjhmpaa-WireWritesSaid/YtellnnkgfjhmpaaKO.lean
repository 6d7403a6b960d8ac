/-
  Calls of a drain that came in: opened; the reach.
-/
import Derived.Test.YtellnnkgfjhmpaaKI
import Derived.Test.YtellnnkgfjhmpaaWrites
import Derived.Deep.Fields
namespace Go.Proofs.Ytellnnkgfjhmpaa
open Go.ChangeShapes Go.WideShapes Go.ChangeAt Go.RowKit Go.Deep

section
variable {H : Type} {enc : TypeId × Value → H}
theorem open_ops {W : World} {base : Nat} {v : Value} {d : DataW H} {ps : List MemPlace} {ts : List TypeId} {ds : List (DataW H)} {j : Nat} {f0 f1 : Field} (he : Try.prog.underlying 58 = some (.struct #[f0, f1]))
    (hone : oneCellFields Try.prog #[f0, f1] = true) (hC : Try.prog.cellsOf 58 = 2) (hf0 : f0.type = 5) (hf1 : f1.type = 31) (hval : Value.okWide Try.prog W .any base 56 v)
    (h : DataW.Trod enc Try.prog W 0 (fun _ => true) true 56 v d ps) (hsz : (DataW.weightsEach Try.prog ts ds).all (· ≤ reachBytes) = true) (ht : ts[j]? = some 56) (hd : ds[j]? = some d) :
    ∃ L, Opsv (fun _ => True) W v L ∧ ∀ i, i < L.length → (L.getD i (0, [])).2.length ≤ 140737488355328 ∧ 0 ≤ (L.getD i (0, [])).1 ∧ (L.getD i (0, [])).1 ≤ 255 := by
  obtain ⟨a0, len, cap, rfl⟩ := okWide_slice Try.underlying56 hval
  obtain ⟨fuel, hf⟩ := h
  rcases open_slice Try.underlying56 hf with ⟨hcs, _⟩ | ⟨a, len', cap', m, n, D, Pl, hcs, _, hl, hm, hmm, hx, hi⟩
  · simp [Value.cells] at hcs
    obtain ⟨rfl, rfl, rfl⟩ := hcs
    exact ⟨[], ⟨none, 0, rfl, Nat.le_refl _, Nat.zero_le _, fun h => (h rfl).elim⟩, fun i hi => by simp at hi⟩
  · simp [Value.cells] at hcs
    obtain ⟨rfl, rfl, rfl⟩ := hcs
    simp only [Prod.mk.injEq] at hx
    obtain ⟨rfl, _⟩ := hx
    simp only [if_true] at hmm
    have each : ∀ i, i < len → ∃ x : (Int × List UInt8) × Value, W.cell? (a.add (i * 2)) = some (.int .u8 x.1.1) ∧ W.cell? (a.add (i * 2 + 1)) = some x.2 ∧ Bytes (fun _ => True) W x.2 x.1.2 ∧ x.1.2.length ≤ 140737488355328 ∧ 0 ≤ x.1.1 ∧ x.1.1 ≤ 255 := by
      intro i hil
      obtain ⟨cs', hc, ht'⟩ := hi i (by omega)
      rw [hC] at hc
      obtain ⟨ys, n', hn', hy, hlen, hyl, hfs⟩ := DataW.trod_struct he ht'
      obtain ⟨_, hcl, hat⟩ := World.cells?_some hc
      obtain ⟨o0, q0⟩ := hone_of hone 0 f0 rfl
      obtain ⟨o1, q1⟩ := hone_of hone 1 f1 rfl
      match cs', hcl with
      | [c0, c1], _ =>
        have e0 := hfs 0 f0 rfl
        have e1 := hfs 1 f1 rfl
        rw [o0, q0, hf0] at e0
        rw [o1, q1, hf1] at e1
        have hys : ys.length = 2 := hyl
        match ys, hys with
        | [y0, y1], _ =>
          obtain ⟨x0, g0, _, w0⟩ := DataW.trod_int Try.underlying5 (show DataW.trod enc Try.prog W 0 (fun _ => true) true n' 5 [c0] = some y0 from e0)
          have e1' : DataW.trod enc Try.prog W 0 (fun _ => true) true n' 31 [c1] = some (y1.1, y1.2) := e1
          obtain ⟨v1, l, hv, hb, hdd⟩ := open_bytes e1'
          simp only [List.cons.injEq, and_true] at hv
          subst hv
          simp at g0
          subst g0
          have b0 := hat 0 (by omega)
          have b1 := hat 1 (by omega)
          rw [Go.Deep.add_add] at b0 b1
          have hw : 0 ≤ x0 ∧ x0 ≤ 255 := by simpa [Lit.wf, IntKind.min, IntKind.max, IntKind.signed, IntKind.bits] using w0
          refine ⟨((x0, l), c1), by simpa using b0, by simpa using b1, hb, ?_, hw⟩
          rcases hdd with ⟨_, rfl⟩ | ⟨els, spr, hD, hel⟩
          · simp
          · have hyD : D i = .agg [y0.1, .slice els spr] := by
              have := congrArg Prod.fst hy
              simpa [hD] using this
            have hwt := of_decide_eq_true (List.all_eq_true.1 hsz _ (DataW.weights_mem_each ht hd ((els.length + spr.length) * Try.prog.bytesOf 5) (by
              simp only [DataW.weights, Try.underlying56, List.mem_cons, List.mem_append]
              exact Or.inr (Or.inl (weightsAll_mem (d := .agg [y0.1, .slice els spr]) (List.mem_map.2 ⟨i, List.mem_range.2 hil, hyD⟩) _ (by simp [DataW.weights, DataW.weightsEach, he, hf0, hf1, Try.underlying31]))))))
            rw [Try.bytes5] at hwt
            have : reachBytes = 140737488351232 := rfl
            simp only
            omega
    obtain ⟨f, hfl⟩ := choose_lt each
    have hlen : ((List.range len).map (fun i => (f i).1)).length = len := by simp
    have hget : ∀ i, i < len → ((List.range len).map (fun i => (f i).1)).getD i (0, []) = (f i).1 := fun i hi => by simp [List.getD, hi]
    refine ⟨(List.range len).map (fun i => (f i).1), ⟨some a, cap, by rw [hlen], by omega, by omega, fun hne => ?_⟩, fun i hil => ?_⟩
    · have h0 : 0 < len := by
        rcases Nat.eq_zero_or_pos len with h0 | h0
        · subst h0; simp at hne
        · exact h0
      have hc0 := (hfl 0 (by omega)).1
      have hspot : a.spot = none := by simpa [Addr.add] using World.cell?_spot hc0
      obtain ⟨bl, off, spot⟩ := a
      simp only at hspot
      subst hspot
      have hb := World.block_lt_of_cell? (w := W) (a := (⟨bl, off, none⟩ : Addr).add (0 * 2)) hc0
      refine ⟨bl, off, rfl, trivial, by simpa [Addr.add] using hb, fun i hil => ?_⟩
      rw [hlen] at hil
      rw [hget i hil]
      have q := hfl i hil
      rw [WideShapes.add_plain, WideShapes.add_plain] at q
      exact ⟨q.1, _, q.2.1, q.2.2.1⟩
    · rw [hlen] at hil
      rw [hget i hil]
      exact (hfl i hil).2.2.2
end
end Go.Proofs.Ytellnnkgfjhmpaa
