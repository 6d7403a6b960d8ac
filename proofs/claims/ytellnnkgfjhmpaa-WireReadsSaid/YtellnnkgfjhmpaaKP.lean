/-
  Bytes, and pieces, that came in: opened; the reach of each.
-/
import Derived.Test.YtellnnkgfjhmpaaK
import Derived.Test.YtellnnkgfjhmpaaC
import Derived.SizedLaws
import Derived.Deep.Slices
namespace Go.Proofs.Ytellnnkgfjhmpaa
open Go.ChangeShapes Go.WideShapes Go.ChangeAt Go.RowKit Go.Deep

theorem Try.bytes5 : Try.prog.bytesOf 5 = 1 := by kernel_rfl
theorem Try.cells31 : Try.prog.cellsOf 31 = 1 := by kernel_rfl
theorem Try.cells5 : Try.prog.cellsOf 5 = 1 := by kernel_rfl

theorem weightsAll_mem {H : Type} {P : Program} {e : TypeId} : ∀ {l : List (DataW H)} {d : DataW H}, d ∈ l → ∀ n ∈ d.weights P e, n ∈ DataW.weightsAll P e l
  | d' :: r, d, hd, n, hn => by
    simp only [DataW.weightsAll, List.mem_append]
    rcases List.mem_cons.1 hd with rfl | h
    · exact Or.inl hn
    · exact Or.inr (weightsAll_mem h n hn)

theorem u8_of {z : Int} (h : (Lit.int .u8 z).wf = true) : ((UInt8.ofNat z.toNat).toNat : Int) = z := by
  have h' : 0 ≤ z ∧ z ≤ 255 := by simpa [Lit.wf, IntKind.min, IntKind.max, IntKind.signed, IntKind.bits] using h
  have : z.toNat < 256 := by omega
  rw [UInt8.toNat_ofNat', Nat.mod_eq_of_lt this]
  omega

section
variable {H : Type} {enc : TypeId × Value → H}
/-- Bytes that came in. -/
theorem open_bytes {W : World} {base fuel : Nat} {sp : Nat → Bool} {hd : Bool} {cs : List Value} {d : DataW H} {ps : List MemPlace} (h : DataW.trod enc Try.prog W base sp hd fuel 31 cs = some (d, ps)) :
    ∃ (v : Value) (l : List UInt8), cs = [v] ∧ Bytes (fun _ => True) W v l ∧ ((d = .nil ∧ l = []) ∨ ∃ els spr, d = .slice els spr ∧ els.length = l.length) := by
  rcases open_ints Try.underlying31 Try.underlying5 Try.cells5 h with ⟨rfl, hx⟩ | ⟨a, len, cap, zs, rfl, _, hl, hm, hz, hx, hcell, hwz⟩
  · simp only [Prod.mk.injEq] at hx
    exact ⟨_, [], rfl, .inl ⟨rfl, rfl⟩, .inl ⟨hx.1, rfl⟩⟩
  · simp only [Prod.mk.injEq] at hx
    have hlz : len ≤ zs.length := by rw [hz]; split <;> omega
    have hlen : ((zs.take len).map (fun z => UInt8.ofNat z.toNat)).length = len := by simp; omega
    refine ⟨_, (zs.take len).map (fun z => UInt8.ofNat z.toNat), rfl, .inr ⟨a, cap, by rw [hlen], by omega, hm, fun hne => ?_⟩, .inr ⟨_, _, hx.1, by simp [lits]⟩⟩
    have h0 : 0 < len := by
      rcases Nat.eq_zero_or_pos len with h0 | h0
      · subst h0; simp at hne
      · exact h0
    have hc0 := hcell 0 (by omega)
    have hspot : a.spot = none := by simpa [Addr.add] using World.cell?_spot hc0
    obtain ⟨bl, off, spot⟩ := a
    simp only at hspot
    subst hspot
    have hb := World.block_lt_of_cell? (w := W) (a := (⟨bl, off, none⟩ : Addr).add 0) hc0
    refine ⟨rfl, trivial, by simpa [Addr.add] using hb, fun i hi => ?_⟩
    rw [hlen] at hi
    have hi' : i < zs.length := by omega
    have := hcell i hi'
    rw [WideShapes.add_plain] at this
    rw [this]
    have hw := hwz _ (List.getElem_mem hi')
    simp only [byteVal, List.getD, List.getElem?_map, List.getElem?_take, hi, if_true, List.getElem?_eq_getElem hi', Option.map_some, Option.getD_some]
    rw [u8_of hw]

/-- Pieces that came in, each within the reach. -/
theorem open_pieces {W : World} {base : Nat} {v : Value} {d : DataW H} {ps : List MemPlace} {ts : List TypeId} {ds : List (DataW H)} {j : Nat} (hval : Value.okWide Try.prog W .any base 22 v)
    (h : DataW.Trod enc Try.prog W 0 (fun _ => true) true 22 v d ps) (hsz : (DataW.weightsEach Try.prog ts ds).all (· ≤ reachBytes) = true) (ht : ts[j]? = some 22) (hd : ds[j]? = some d) :
    ∃ L, Pieces (fun _ => True) W v L ∧ ∀ p ∈ L, p.length ≤ 140737488351232 := by
  obtain ⟨a0, len, cap, rfl⟩ := okWide_slice Try.underlying22 hval
  obtain ⟨fuel, hf⟩ := h
  rcases open_slice1 Try.underlying22 Try.cells31 hf with ⟨hcs, _⟩ | ⟨a, len', cap', m, n, V, D, Pl, hcs, _, hl, hm, hmm, hx, hi⟩
  · simp [Value.cells] at hcs
    obtain ⟨rfl, rfl, rfl⟩ := hcs
    exact ⟨[], ⟨none, 0, rfl, Nat.le_refl _, Nat.zero_le _, fun h => (h rfl).elim⟩, fun p hp => by simp at hp⟩
  · simp [Value.cells] at hcs
    obtain ⟨rfl, rfl, rfl⟩ := hcs
    simp only [Prod.mk.injEq] at hx
    obtain ⟨rfl, _⟩ := hx
    simp only [if_true] at hmm
    have each : ∀ i, i < len → ∃ l : List UInt8, Bytes (fun _ => True) W (V i) l ∧ l.length ≤ 140737488351232 := by
      intro i hil
      obtain ⟨v', l, hv, hb, hdd⟩ := open_bytes (hi i (by omega)).2
      simp only [List.cons.injEq, and_true] at hv
      subst hv
      refine ⟨l, hb, ?_⟩
      rcases hdd with ⟨_, rfl⟩ | ⟨els, spr, hD, hel⟩
      · simp
      · have hw := of_decide_eq_true (List.all_eq_true.1 hsz _ (DataW.weights_mem_each ht hd ((els.length + spr.length) * Try.prog.bytesOf 5) (by
          simp only [DataW.weights, Try.underlying22, List.mem_cons, List.mem_append]
          exact Or.inr (Or.inl (weightsAll_mem (d := .slice els spr) (List.mem_map.2 ⟨i, List.mem_range.2 hil, hD⟩) _ (by simp [DataW.weights, Try.underlying31]))))))
        rw [Try.bytes5] at hw
        have : reachBytes = 140737488351232 := rfl
        omega
    obtain ⟨f, hfl⟩ := choose_lt each
    have hlen : ((List.range len).map f).length = len := by simp
    have hget : ∀ i, i < len → ((List.range len).map f).getD i [] = f i := fun i hi => by simp [List.getD, hi]
    refine ⟨(List.range len).map f, ⟨some a, cap, by rw [hlen], by omega, by omega, fun hne => ?_⟩, fun p hp => ?_⟩
    · have h0 : 0 < len := by
        rcases Nat.eq_zero_or_pos len with h0 | h0
        · subst h0; simp at hne
        · exact h0
      have hc0 := (hi 0 (by omega)).1
      have hspot : a.spot = none := by simpa [Addr.add] using World.cell?_spot hc0
      obtain ⟨bl, off, spot⟩ := a
      simp only at hspot
      subst hspot
      have hb := World.block_lt_of_cell? (w := W) (a := (⟨bl, off, none⟩ : Addr).add 0) hc0
      refine ⟨bl, off, rfl, trivial, by simpa [Addr.add] using hb, fun i hil => ?_⟩
      rw [hlen] at hil
      refine ⟨V i, ?_, by rw [hget i hil]; exact (hfl i hil).1⟩
      have := (hi i (by omega)).1
      rwa [WideShapes.add_plain] at this
    · obtain ⟨i, hi1, rfl⟩ := List.mem_map.1 hp
      exact (hfl i (List.mem_range.1 hi1)).2
end
end Go.Proofs.Ytellnnkgfjhmpaa
