/-
  Integers that came in: opened; the reach.
-/
import Derived.Test.YtellnnkgfjhmpaaKP
import Derived.Test.YtellnnkgfjhmpaaG
namespace Go.Proofs.Ytellnnkgfjhmpaa
open Go.ChangeShapes Go.WideShapes Go.ChangeAt Go.RowKit Go.Deep

theorem Try.bytes3 : Try.prog.bytesOf 3 = 8 := by kernel_rfl
theorem Try.cells3 : Try.prog.cellsOf 3 = 1 := by kernel_rfl

section
variable {H : Type} {enc : TypeId × Value → H}
theorem open_nums {W : World} {base : Nat} {v : Value} {d : DataW H} {ps : List MemPlace} {ts : List TypeId} {ds : List (DataW H)} {j : Nat} (hval : Value.okWide Try.prog W .any base 37 v)
    (h : DataW.Trod enc Try.prog W 0 (fun _ => true) true 37 v d ps) (hsz : (DataW.weightsEach Try.prog ts ds).all (· ≤ reachBytes) = true) (ht : ts[j]? = some 37) (hd : ds[j]? = some d) :
    ∃ T : List Int, Ints (fun _ => True) W v T ∧ T.length ≤ 140737488351232 ∧ ∀ i, i < T.length → (Lit.int .i64 (T.getD i 0)).wf = true := by
  obtain ⟨a0, len, cap, rfl⟩ := okWide_slice Try.underlying37 hval
  obtain ⟨fuel, hf⟩ := h
  rcases open_ints Try.underlying37 Try.underlying3 Try.cells3 hf with ⟨hcs, _⟩ | ⟨a, len', cap', zs, hcs, _, hl, hm, hz, hx, hcell, hwz⟩
  · simp [Value.cells] at hcs
    obtain ⟨rfl, rfl, rfl⟩ := hcs
    exact ⟨[], .inl ⟨rfl, rfl⟩, by simp, fun i hi => by simp at hi⟩
  · simp [Value.cells] at hcs
    obtain ⟨rfl, rfl, rfl⟩ := hcs
    simp only [Prod.mk.injEq] at hx
    obtain ⟨rfl, _⟩ := hx
    simp only [if_true] at hz
    have hw := sized_slice hsz ht hd Try.underlying37
    rw [Try.bytes3] at hw
    have hlen : (zs.take len).length = len := by simp; omega
    have hll : (lits (H := H) .i64 (zs.take len)).length = len := by simp [lits]; omega
    rw [hll] at hw
    have hr : reachBytes = 140737488351232 := rfl
    have hget : ∀ i, i < len → (zs.take len).getD i 0 = zs.getD i 0 := fun i hi => by simp [List.getD, hi]
    refine ⟨zs.take len, .inr ⟨a, cap, by rw [hlen], by omega, by omega, fun hne => ?_⟩, by rw [hlen]; omega, fun i hi => ?_⟩
    · have h0 : 0 < len := by
        rcases Nat.eq_zero_or_pos len with h0 | h0
        · subst h0; simp at hne
        · exact h0
      have hc0 := hcell 0 (by omega)
      have hspot : a.spot = none := by simpa [Addr.add] using World.cell?_spot hc0
      obtain ⟨bl, off, spot⟩ := a
      simp only at hspot
      subst hspot
      have hb := World.block_lt_of_cell? (w := W) (a := (⟨bl, off, none⟩ : Addr).add 0) hc0
      refine ⟨rfl, trivial, by simpa [Addr.add] using hb, fun i hi => ?_⟩
      rw [hlen] at hi
      rw [hget i hi]
      have := hcell i (by omega)
      rwa [WideShapes.add_plain] at this
    · rw [hlen] at hi
      rw [hget i hi]
      have hlt : i < zs.length := by omega
      simp only [List.getD, List.getElem?_eq_getElem hlt, Option.getD_some]
      exact hwz _ (List.getElem_mem hlt)
end
end Go.Proofs.Ytellnnkgfjhmpaa
