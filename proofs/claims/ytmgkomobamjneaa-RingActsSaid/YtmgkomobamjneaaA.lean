/-
  Memory words: which blocks may have turned; a slice that reads as bytes.
-/
import Derived.Test.YtmgkomobamjneaaRows
import Derived.WalkKit
import Derived.WalkSpells
import Derived.WalkLawsBesides
import Derived.RegionTactic
import Derived.BigRegion
import Derived.OneCell
import Derived.Lib.Hide
import Derived.Maps.AppendAt
import Derived.Laws.BytesArg
import Derived.Laws.IdiomStrings
namespace Go.Proofs.Ytmgkomobamjneaa
open Go.RowKit

/-- Of the blocks that lay there those in 'ok' lie as they lay; none has gone. -/
structure Frm (ok : Nat → Prop) (w w' : World) : Prop where
  os : w'.os = w.os
  tape : w'.tape = w.tape
  output : w'.output = w.output
  size : w.heap.size ≤ w'.heap.size
  block : ∀ k, k < w.heap.size → ok k → w'.heap[k]? = w.heap[k]?

section
variable {ok ok' : Nat → Prop} {w w1 w2 : World}
theorem Frm.refl (ok : Nat → Prop) (w : World) : Frm ok w w := ⟨rfl, rfl, rfl, Nat.le_refl _, fun _ _ _ => rfl⟩
theorem Frm.trans (h : Frm ok w w1) (k : Frm ok w1 w2) : Frm ok w w2 :=
  ⟨k.os.trans h.os, k.tape.trans h.tape, k.output.trans h.output, Nat.le_trans h.size k.size, fun i hi ho => (k.block i (Nat.lt_of_lt_of_le hi h.size) ho).trans (h.block i hi ho)⟩
theorem Frm.mono (h : Frm ok w w1) (hm : ∀ k, k < w.heap.size → ok' k → ok k) : Frm ok' w w1 := ⟨h.os, h.tape, h.output, h.size, fun k hk ho => h.block k hk (hm k hk ho)⟩
theorem Frm.drew (h : Frm ok w w1) : Frm ok w w1.drew := ⟨h.os, h.tape, h.output, h.size, h.block⟩
theorem Frm.undrew (h : Frm ok w.drew w1) : Frm ok w w1 := ⟨h.os, h.tape, h.output, h.size, h.block⟩
theorem Frm.alloc (h : Frm ok w w1) (o : Obj) : Frm ok w (w1.alloc o) :=
  ⟨h.os, h.tape, h.output, by rw [World.size_alloc]; have := h.size; omega, fun k hk ho => (Below.heap_alloc _ _ _ (by have := h.size; omega)).trans (h.block k hk ho)⟩
theorem Frm.setCell (h : Frm ok w w1) (b i : Nat) (v : Value) (hb : b < w.heap.size → ¬ ok b) : Frm ok w (w1.setCell ⟨b, i, none⟩ v) :=
  ⟨h.os, h.tape, h.output, by rw [World.size_setCell]; exact h.size, fun k hk ho => (Below.heap_setCell _ _ _ _ (fun e => hb (by simp only at e; omega) (by simp only at e; subst e; exact ho))).trans (h.block k hk ho)⟩
theorem Frm.of_below {B : Nat} (h : Below B w w1) (hm : ∀ k, k < w.heap.size → ok k → k < B) : Frm ok w w1 := ⟨h.os, h.tape, h.output, h.size, fun k hk ho => h.block k (hm k hk ho)⟩
theorem Frm.below {B : Nat} (h : Frm ok w w1) (hB : B ≤ w.heap.size) (hm : ∀ k, k < B → ok k) : Below B w w1 := ⟨h.os, h.tape, h.output, h.size, fun k hk => h.block k (by omega) (hm k hk)⟩
theorem Frm.grown {row : Option Nat} (h : Frm ok w w1) (hg : w1.grownBy w2 row) (hr : ∀ k, row = some k → k < w.heap.size → ¬ ok k) : Frm ok w w2 :=
  ⟨hg.os.trans h.os, hg.tape.trans h.tape, hg.output.trans h.output, Nat.le_trans h.size hg.size, fun k hk ho => (hg.block k (by have := h.size; omega) (fun e => hr k e.symm hk ho)).trans (h.block k hk ho)⟩
theorem Frm.cell (h : Frm ok w w1) {p : Addr} (hp : p.block < w.heap.size) (ho : ok p.block) : w1.cell? p = w.cell? p := World.cell?_of_block (w := w) (h.block p.block hp ho)
end

theorem owns_frm {ok : Nat → Prop} {w w' : World} {B : Nat} {e : TypeId} {z n : Nat} {v : Value} {xs : List Value} (h : w.ownsRow B e z v n xs) (hf : Frm ok w w') (hm : ∀ q, v.ownBlock = some q → ok q) : w'.ownsRow B e z v n xs := by
  obtain ⟨h1, h2⟩ := h
  refine ⟨h1, ?_⟩
  rcases h2 with h2 | ⟨g, cap, cur, hv, hg, hh, r⟩
  · exact .inl h2
  · exact .inr ⟨g, cap, cur, hv, hg, (hf.block g (lt_of_block hh) (hm g (by rw [hv]; rfl))).trans hh, r⟩

/-- A byte as a cell. -/
def byteVal (c : UInt8) : Value := .int .u8 (c.toNat : Int)
/-- The slice v reads as the bytes l; its cells lie in a block in 'ok'. -/
def Bytes (ok : Nat → Prop) (w : World) (v : Value) (l : List UInt8) : Prop :=
  (v = .slice none 0 0 ∧ l = []) ∨ ∃ a cap, v = .slice (some a) l.length cap ∧ l.length ≤ cap ∧ cap ≤ maxLen ∧
    (l ≠ [] → a.spot = none ∧ ok a.block ∧ a.block < w.heap.size ∧ ∀ i, i < l.length → w.cell? ⟨a.block, a.off + i, none⟩ = some (byteVal (l.getD i 0)))

theorem Bytes.kept {ok ok' : Nat → Prop} {w w' : World} {v : Value} {l : List UInt8} (h : Bytes ok w v l) (hf : Frm ok' w w') (hm : ∀ k, k < w.heap.size → ok k → ok' k) : Bytes ok w' v l := by
  rcases h with h | ⟨a, cap, h1, h2, h3, h4⟩
  · exact .inl h
  · refine .inr ⟨a, cap, h1, h2, h3, fun hl => ?_⟩
    obtain ⟨g1, g2, g3, g4⟩ := h4 hl
    exact ⟨g1, g2, Nat.lt_of_lt_of_le g3 hf.size, fun i hi => (hf.cell (p := ⟨a.block, a.off + i, none⟩) g3 (hm _ g3 g2)).trans (g4 i hi)⟩
theorem Bytes.mono {ok ok' : Nat → Prop} {w : World} {v : Value} {l : List UInt8} (h : Bytes ok w v l) (hm : ∀ k, k < w.heap.size → ok k → ok' k) : Bytes ok' w v l := by
  rcases h with h | ⟨a, cap, h1, h2, h3, h4⟩
  · exact .inl h
  · exact .inr ⟨a, cap, h1, h2, h3, fun hl => by obtain ⟨g1, g2, g3, g4⟩ := h4 hl; exact ⟨g1, hm _ g3 g2, g3, g4⟩⟩

theorem Bytes.form {ok : Nat → Prop} {w : World} {v : Value} {l : List UInt8} (h : Bytes ok w v l) :
    ∃ o cap, v = .slice o l.length cap ∧ l.length ≤ cap ∧ cap ≤ maxLen ∧ (l ≠ [] → ∃ b off, o = some ⟨b, off, none⟩ ∧ ok b ∧ b < w.heap.size ∧ ∀ i, i < l.length → w.cell? ⟨b, off + i, none⟩ = some (byteVal (l.getD i 0))) := by
  rcases h with ⟨rfl, rfl⟩ | ⟨a, cap, h1, h2, h3, h4⟩
  · exact ⟨none, 0, rfl, Nat.le_refl _, Nat.zero_le _, fun h => (h rfl).elim⟩
  · refine ⟨some a, cap, h1, h2, h3, fun hl => ?_⟩
    obtain ⟨g1, g2, g3, g4⟩ := h4 hl
    obtain ⟨b, off, spot⟩ := a
    simp only at g1
    subst g1
    exact ⟨b, off, rfl, g2, g3, g4⟩
/-- A slice of its own cells that reads as bytes. -/
theorem Bytes.of_owns {ok : Nat → Prop} {w : World} {B n : Nat} {v : Value} {l : List UInt8} (h : w.ownsRow B 5 1 v n (l.map byteVal)) (hn : n = l.length) (hm : ∀ k, B ≤ k → k < w.heap.size → ok k) : Bytes ok w v l := by
  subst hn
  obtain ⟨_, h2⟩ := h
  rcases h2 with ⟨rfl, h2⟩ | ⟨g, cap, cur, rfl, h3, h4, h5, h6, h7, h8⟩
  · exact .inl ⟨rfl, List.length_eq_zero_iff.1 h2⟩
  · refine .inr ⟨⟨g, 0, none⟩, cap, rfl, h5, h6, fun _ => ⟨rfl, hm g h3 (lt_of_block h4), lt_of_block h4, fun i hi => ?_⟩⟩
    have : cur[i]? = some (byteVal (l.getD i 0)) := by
      have e : (cur.toList.take (l.length * 1))[i]? = (l.map byteVal)[i]? := by rw [h8]
      rw [List.getElem?_take, if_pos (by omega)] at e
      simpa [hi, List.getD] using e
    simp [World.cell?, h4, this]
end Go.Proofs.Ytmgkomobamjneaa
