/-
  Bytes that came in, opened.
-/
import Derived.Test.YtmgkomobamjneaaM
import Derived.Deep.Slices
namespace Go.Proofs.Ytmgkomobamjneaa
open Go.ChangeShapes Go.WideShapes Go.ChangeAt Go.RowKit Go.Deep

theorem Try.bytes5 : Try.prog.bytesOf 5 = 1 := by kernel_rfl
theorem Try.cells5 : Try.prog.cellsOf 5 = 1 := by kernel_rfl

theorem u8_of {z : Int} (h : (Lit.int .u8 z).wf = true) : ((UInt8.ofNat z.toNat).toNat : Int) = z := by
  have h' : 0 ≤ z ∧ z ≤ 255 := by simpa [Lit.wf, IntKind.min, IntKind.max, IntKind.signed, IntKind.bits] using h
  have : z.toNat < 256 := by omega
  rw [UInt8.toNat_ofNat', Nat.mod_eq_of_lt this]
  omega

section
variable {H : Type} {enc : TypeId × Value → H}
/-- Bytes that came in. -/
theorem open_bytes {W : World} {base fuel : Nat} {sp : Nat → Bool} {hd : Bool} {cs : List Value} {d : DataW H} {ps : List MemPlace} (h : DataW.trod enc Try.prog W base sp hd fuel 22 cs = some (d, ps)) :
    ∃ (v : Value) (l : List UInt8), cs = [v] ∧ Bytes (fun _ => True) W v l ∧ ((d = .nil ∧ l = []) ∨ ∃ els spr, d = .slice els spr ∧ els.length = l.length) := by
  rcases open_ints Try.underlying22 Try.underlying5 Try.cells5 h with ⟨rfl, hx⟩ | ⟨a, len, cap, zs, rfl, _, hl, hm, hz, hx, hcell, hwz⟩
  · simp only [Prod.mk.injEq] at hx
    exact ⟨_, [], rfl, .inl ⟨rfl, rfl⟩, .inl ⟨hx.1, rfl⟩⟩
  · simp only [Prod.mk.injEq] at hx
    have hlz : len ≤ zs.length := by rw [hz]; split <;> omega
    have hlen : ((zs.take len).map (fun z => UInt8.ofNat z.toNat)).length = len := by simp; omega
    refine ⟨_, (zs.take len).map (fun z => UInt8.ofNat z.toNat), rfl, .inr ⟨a, cap, by rw [hlen], by omega, hm, fun hne => ?_⟩, .inr ⟨_, _, hx.1, by simp [lits]⟩⟩
    have h0 : 0 < len := by
      rcases Nat.eq_zero_or_pos len with h0 | h0
      · subst h0; simp at hne
      · exact h0
    have hc0 := hcell 0 (by omega)
    have hspot : a.spot = none := by simpa [Addr.add] using World.cell?_spot hc0
    obtain ⟨bl, off, spot⟩ := a
    simp only at hspot
    subst hspot
    have hb := World.block_lt_of_cell? (w := W) (a := (⟨bl, off, none⟩ : Addr).add 0) hc0
    refine ⟨rfl, trivial, by simpa [Addr.add] using hb, fun i hi => ?_⟩
    rw [hlen] at hi
    have hi' : i < zs.length := by omega
    have := hcell i hi'
    rw [WideShapes.add_plain] at this
    rw [this]
    have hw := hwz _ (List.getElem_mem hi')
    simp only [byteVal, List.getD, List.getElem?_map, List.getElem?_take, hi, if_true, List.getElem?_eq_getElem hi', Option.map_some, Option.getD_some]
    rw [u8_of hw]


theorem open_text {W : World} {base : Nat} {v : Value} {d : DataW H} {ps : List MemPlace} {ts : List TypeId} {ds : List (DataW H)} {j : Nat} (hval : Value.okWide Try.prog W .any base 22 v) (h : DataW.Trod enc Try.prog W 0 (fun _ => true) true 22 v d ps)
    (hsz : (DataW.weightsEach Try.prog ts ds).all (· ≤ reachBytes) = true) (ht : ts[j]? = some 22) (hd : ds[j]? = some d) : ∃ l : List UInt8, Bytes (fun _ => True) W v l ∧ l.length ≤ 140737488351232 := by
  obtain ⟨a0, len, cap, rfl⟩ := okWide_slice Try.underlying22 hval
  obtain ⟨fuel, hf⟩ := h
  obtain ⟨v', l, hv, hb, hdd⟩ := open_bytes hf
  simp [Value.cells] at hv
  subst hv
  refine ⟨l, hb, ?_⟩
  rcases hdd with ⟨_, rfl⟩ | ⟨els, spr, rfl, hel⟩
  · simp
  · have hw := sized_slice hsz ht hd Try.underlying22
    rw [Try.bytes5] at hw
    have : reachBytes = 140737488351232 := rfl
    omega
end
end Go.Proofs.Ytmgkomobamjneaa
