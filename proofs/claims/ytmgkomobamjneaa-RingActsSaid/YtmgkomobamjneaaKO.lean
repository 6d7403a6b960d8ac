/-
  Calls of a ring that came in: opened; the reach.
-/
import Derived.Test.YtmgkomobamjneaaKP
import Derived.Test.YtmgkomobamjneaaOps
import Derived.Deep.Fields
namespace Go.Proofs.Ytmgkomobamjneaa
open Go.ChangeShapes Go.WideShapes Go.ChangeAt Go.RowKit Go.Deep

section
variable {H : Type} {enc : TypeId × Value → H}
theorem open_ops {W : World} {base : Nat} {v : Value} {d : DataW H} {ps : List MemPlace} {ts : List TypeId} {ds : List (DataW H)} {j : Nat} {f0 f1 f2 : Field} (he : Try.prog.underlying 50 = some (.struct #[f0, f1, f2]))
    (hone : oneCellFields Try.prog #[f0, f1, f2] = true) (hC : Try.prog.cellsOf 50 = 3) (hf0 : f0.type = 5) (hf1 : f1.type = 22) (hf2 : f2.type = 3) (hval : Value.okWide Try.prog W .any base 44 v)
    (h : DataW.Trod enc Try.prog W 0 (fun _ => true) true 44 v d ps) (hsz : (DataW.weightsEach Try.prog ts ds).all (· ≤ reachBytes) = true) (ht : ts[j]? = some 44) (hd : ds[j]? = some d) :
    ∃ L, Opsv (fun _ => True) W v L ∧ ∀ i, i < L.length → (L.getD i (0, [], 0)).2.1.length ≤ 140737488351232 ∧ (0 ≤ (L.getD i (0, [], 0)).1 ∧ (L.getD i (0, [], 0)).1 ≤ 255) ∧ (L.getD i (0, [], 0)).2.2 ≤ 9223372036854775807 := by
  obtain ⟨a0, len, cap, rfl⟩ := okWide_slice Try.underlying44 hval
  obtain ⟨fuel, hf⟩ := h
  rcases open_slice Try.underlying44 hf with ⟨hcs, _⟩ | ⟨a, len', cap', m, n, D, Pl, hcs, _, hl, hm, hmm, hx, hi⟩
  · simp [Value.cells] at hcs
    obtain ⟨rfl, rfl, rfl⟩ := hcs
    exact ⟨[], ⟨none, 0, rfl, Nat.le_refl _, Nat.zero_le _, fun h => (h rfl).elim⟩, fun i hi => by simp at hi⟩
  · simp [Value.cells] at hcs
    obtain ⟨rfl, rfl, rfl⟩ := hcs
    simp only [Prod.mk.injEq] at hx
    obtain ⟨rfl, _⟩ := hx
    simp only [if_true] at hmm
    have each : ∀ i, i < len → ∃ x : (Int × List UInt8 × Int) × Value, W.cell? (a.add (i * 3)) = some (.int .u8 x.1.1) ∧ W.cell? (a.add (i * 3 + 1)) = some x.2 ∧ W.cell? (a.add (i * 3 + 2)) = some (.int .i64 x.1.2.2) ∧ Bytes (fun _ => True) W x.2 x.1.2.1 ∧ x.1.2.1.length ≤ 140737488351232 ∧ (0 ≤ x.1.1 ∧ x.1.1 ≤ 255) ∧ x.1.2.2 ≤ 9223372036854775807 := by
      intro i hil
      obtain ⟨cs', hc, ht'⟩ := hi i (by omega)
      rw [hC] at hc
      obtain ⟨ys, n', hn', hy, hlen, hyl, hfs⟩ := DataW.trod_struct he ht'
      obtain ⟨_, hcl, hat⟩ := World.cells?_some hc
      obtain ⟨o0, q0⟩ := hone_of hone 0 f0 rfl
      obtain ⟨o1, q1⟩ := hone_of hone 1 f1 rfl
      obtain ⟨o2, q2⟩ := hone_of hone 2 f2 rfl
      match cs', hcl with
      | [c0, c1, c2], _ =>
        have e0 := hfs 0 f0 rfl
        have e1 := hfs 1 f1 rfl
        rw [o0, q0, hf0] at e0
        rw [o1, q1, hf1] at e1
        have e2 := hfs 2 f2 rfl
        rw [o2, q2, hf2] at e2
        have hys : ys.length = 3 := hyl
        match ys, hys with
        | [y0, y1, y2], _ =>
          obtain ⟨x0, g0, _, w0⟩ := DataW.trod_int Try.underlying5 (show DataW.trod enc Try.prog W 0 (fun _ => true) true n' 5 [c0] = some y0 from e0)
          have e1' : DataW.trod enc Try.prog W 0 (fun _ => true) true n' 22 [c1] = some (y1.1, y1.2) := e1
          obtain ⟨v1, l, hv, hb, hdd⟩ := open_bytes e1'
          simp only [List.cons.injEq, and_true] at hv
          subst hv
          simp at g0
          subst g0
          obtain ⟨x2, g2, _, w2⟩ := DataW.trod_int Try.underlying3 (show DataW.trod enc Try.prog W 0 (fun _ => true) true n' 3 [c2] = some y2 from e2)
          simp at g2
          subst g2
          have b0 := hat 0 (by omega)
          have b1 := hat 1 (by omega)
          have b2 := hat 2 (by omega)
          rw [Go.Deep.add_add] at b0 b1 b2
          have hw : 0 ≤ x0 ∧ x0 ≤ 255 := by simpa [Lit.wf, IntKind.min, IntKind.max, IntKind.signed, IntKind.bits] using w0
          refine ⟨((x0, l, x2), c1), by simpa using b0, by simpa using b1, by simpa using b2, hb, ?_, hw, (bd_i64 w2).2⟩
          rcases hdd with ⟨_, rfl⟩ | ⟨els, spr, hD, hel⟩
          · simp
          · have hyD : D i = .agg [y0.1, .slice els spr, y2.1] := by
              have := congrArg Prod.fst hy
              simpa [hD] using this
            have hwt := of_decide_eq_true (List.all_eq_true.1 hsz _ (DataW.weights_mem_each ht hd ((els.length + spr.length) * Try.prog.bytesOf 5) (by
              simp only [DataW.weights, Try.underlying44, List.mem_cons, List.mem_append]
              exact Or.inr (Or.inl (weightsAll_mem (d := .agg [y0.1, .slice els spr, y2.1]) (List.mem_map.2 ⟨i, List.mem_range.2 hil, hyD⟩) _ (by simp [DataW.weights, DataW.weightsEach, he, hf0, hf1, hf2, Try.underlying22]))))))
            rw [Try.bytes5] at hwt
            have : reachBytes = 140737488351232 := rfl
            simp only
            omega
    obtain ⟨f, hfl⟩ := choose_lt each
    have hlen : ((List.range len).map (fun i => (f i).1)).length = len := by simp
    have hget : ∀ i, i < len → ((List.range len).map (fun i => (f i).1)).getD i (0, [], 0) = (f i).1 := fun i hi => by simp [List.getD, hi]
    refine ⟨(List.range len).map (fun i => (f i).1), ⟨some a, cap, by rw [hlen], by omega, by omega, fun hne => ?_⟩, fun i hil => ?_⟩
    · have h0 : 0 < len := by
        rcases Nat.eq_zero_or_pos len with h0 | h0
        · subst h0; simp at hne
        · exact h0
      have hc0 := (hfl 0 (by omega)).1
      have hspot : a.spot = none := by simpa [Addr.add] using World.cell?_spot hc0
      obtain ⟨bl, off, spot⟩ := a
      simp only at hspot
      subst hspot
      have hb := World.block_lt_of_cell? (w := W) (a := (⟨bl, off, none⟩ : Addr).add (0 * 3)) hc0
      refine ⟨bl, off, rfl, trivial, by simpa [Addr.add] using hb, fun i hil => ?_⟩
      rw [hlen] at hil
      rw [hget i hil]
      have q := hfl i hil
      rw [WideShapes.add_plain, WideShapes.add_plain, WideShapes.add_plain] at q
      exact ⟨q.1, _, q.2.1, q.2.2.2.1, q.2.2.1⟩
    · rw [hlen] at hil
      rw [hget i hil]
      exact (hfl i hil).2.2.2.2
end
end Go.Proofs.Ytmgkomobamjneaa
