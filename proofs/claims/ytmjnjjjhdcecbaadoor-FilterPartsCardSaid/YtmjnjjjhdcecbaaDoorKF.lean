/-
  Fields that came in, opened; the reach.
-/
import Derived.Test.YtmjnjjjhdcecbaaDoorH
import Derived.Test.YtmjnjjjhdcecbaaDoorT
import Derived.Deep.Slices
import Derived.Deep.Fields
namespace Go.Proofs.YtmjnjjjhdcecbaaDoor
open Go.ChangeShapes Go.WideShapes Go.ChangeAt Go.RowKit Go.Deep

theorem weightsAll_mem {H : Type} {P : Program} {e : TypeId} : ∀ {l : List (DataW H)} {d : DataW H}, d ∈ l → ∀ n ∈ d.weights P e, n ∈ DataW.weightsAll P e l
  | d' :: r, d, hd, n, hn => by
    simp only [DataW.weightsAll, List.mem_append]
    rcases List.mem_cons.1 hd with rfl | h
    · exact Or.inl hn
    · exact Or.inr (weightsAll_mem h n hn)

section
variable {H : Type} {enc : TypeId × Value → H}
theorem open_flds {W : World} {base : Nat} {v : Value} {d : DataW H} {ps : List MemPlace} {ts : List TypeId} {ds : List (DataW H)} {j : Nat} {f0 f1 : Field} (he : Tryd.prog.underlying 42 = some (.struct #[f0, f1]))
    (hone : oneCellFields Tryd.prog #[f0, f1] = true) (hC : Tryd.prog.cellsOf 42 = 2) (hf0 : f0.type = 9) (hf1 : f1.type = 9) (hval : Value.okWide Tryd.prog W .any base 31 v)
    (h : DataW.Trod enc Tryd.prog W 0 (fun _ => true) true 31 v d ps) (hsz : (DataW.weightsEach Tryd.prog ts ds).all (· ≤ reachBytes) = true) (ht : ts[j]? = some 31) (hd : ds[j]? = some d) :
    ∃ L : List Fd, Flds (fun _ => True) W v L ∧ ∀ f ∈ L, f.1.size ≤ 140737488351232 ∧ f.2.size ≤ 140737488351232 := by
  obtain ⟨a0, len, cap, rfl⟩ := okWide_slice Tryd.underlying31 hval
  obtain ⟨fuel, hf⟩ := h
  rcases open_slice Tryd.underlying31 hf with ⟨hcs, _⟩ | ⟨a, len', cap', m, n, D, Pl, hcs, _, hl, hm, hmm, hx, hi⟩
  · simp [Value.cells] at hcs
    obtain ⟨rfl, rfl, rfl⟩ := hcs
    exact ⟨[], ⟨none, 0, rfl, Nat.le_refl _, ⟨Nat.zero_le _, fun _ => rfl⟩, fun h => (h rfl).elim⟩, fun f hf => by cases hf⟩
  · simp [Value.cells] at hcs
    obtain ⟨rfl, rfl, rfl⟩ := hcs
    simp only [Prod.mk.injEq] at hx
    obtain ⟨rfl, _⟩ := hx
    simp only [if_true] at hmm
    have each : ∀ i, i < len → ∃ x : Fd, W.cell? (a.add (i * 2)) = some (.string x.1) ∧ W.cell? (a.add (i * 2 + 1)) = some (.string x.2) ∧ x.1.size ≤ 140737488351232 ∧ x.2.size ≤ 140737488351232 := by
      intro i hil
      obtain ⟨cs', hc, ht'⟩ := hi i (by omega)
      rw [hC] at hc
      obtain ⟨ys, n', hn', hy, hlen, hyl, hfs⟩ := DataW.trod_struct he ht'
      obtain ⟨_, hcl, hat⟩ := World.cells?_some hc
      obtain ⟨o0, q0⟩ := hone_of hone 0 f0 rfl
      obtain ⟨o1, q1⟩ := hone_of hone 1 f1 rfl
      match cs', hcl with
      | [c0, c1], _ =>
        have e0 := hfs 0 f0 rfl
        have e1 := hfs 1 f1 rfl
        rw [o0, q0, hf0] at e0
        rw [o1, q1, hf1] at e1
        have hys : ys.length = 2 := hyl
        match ys, hys with
        | [y0, y1], _ =>
          obtain ⟨s0, g0, r0, _⟩ := DataW.trod_string Tryd.underlying9 (show DataW.trod enc Tryd.prog W 0 (fun _ => true) true n' 9 [c0] = some y0 from e0)
          obtain ⟨s1, g1, r1, _⟩ := DataW.trod_string Tryd.underlying9 (show DataW.trod enc Tryd.prog W 0 (fun _ => true) true n' 9 [c1] = some y1 from e1)
          simp at g0 g1
          subst g0 g1
          have b0 := hat 0 (by omega)
          have b1 := hat 1 (by omega)
          rw [Go.Deep.add_add] at b0 b1
          have hyD : D i = .agg [.lit (.string s0.data.toList), .lit (.string s1.data.toList)] := by
            have := congrArg Prod.fst hy
            simpa [r0, r1] using this
          have hw : ∀ n, n ∈ DataW.weights Tryd.prog 42 (.agg [.lit (.string s0.data.toList), .lit (.string s1.data.toList)] : DataW H) → n ≤ reachBytes := fun n hn =>
            of_decide_eq_true (List.all_eq_true.1 hsz _ (DataW.weights_mem_each ht hd n (by
              simp only [DataW.weights, Tryd.underlying31, List.mem_cons, List.mem_append]
              exact Or.inr (Or.inl (weightsAll_mem (List.mem_map.2 ⟨i, List.mem_range.2 hil, hyD⟩) n hn)))))
          have w0 := hw s0.data.toList.length (by simp [DataW.weights, DataW.weightsEach, he, hf0, hf1])
          have w1 := hw s1.data.toList.length (by simp [DataW.weights, DataW.weightsEach, he, hf0, hf1])
          have hreach : reachBytes = 140737488351232 := rfl
          have z0 : s0.size = s0.data.toList.length := by simp
          have z1 : s1.size = s1.data.toList.length := by simp
          exact ⟨(s0, s1), by simpa using b0, by simpa using b1, by show s0.size ≤ _; omega, by show s1.size ≤ _; omega⟩
    obtain ⟨f, hfl⟩ := choose_lt each
    have hlen : ((List.range len).map f).length = len := by simp
    have hget : ∀ i, i < len → ((List.range len).map f).getD i nofd = f i := fun i hi => by simp [List.getD, hi]
    refine ⟨(List.range len).map f, ⟨some a, cap, by rw [hlen], by omega, ⟨by omega, fun e => by cases e⟩, fun hne => ?_⟩, fun x hx => ?_⟩
    · have h0 : 0 < len := by
        rcases Nat.eq_zero_or_pos len with h0 | h0
        · subst h0; simp at hne
        · exact h0
      have hc0 := (hfl 0 (by omega)).1
      have hspot : a.spot = none := by simpa [Addr.add] using World.cell?_spot hc0
      obtain ⟨bl, off, spot⟩ := a
      simp only at hspot
      subst hspot
      have hb := World.block_lt_of_cell? (w := W) (a := (⟨bl, off, none⟩ : Addr).add (0 * 2)) hc0
      refine ⟨bl, off, rfl, trivial, by simpa [Addr.add] using hb, fun i hil => ?_⟩
      rw [hlen] at hil
      rw [hget i hil]
      have q := hfl i hil
      rw [WideShapes.add_plain, WideShapes.add_plain] at q
      exact ⟨q.1, q.2.1⟩
    · obtain ⟨i, hi, rfl⟩ := List.mem_map.1 hx
      exact (hfl i (List.mem_range.1 hi)).2.2
end
end Go.Proofs.YtmjnjjjhdcecbaaDoor
