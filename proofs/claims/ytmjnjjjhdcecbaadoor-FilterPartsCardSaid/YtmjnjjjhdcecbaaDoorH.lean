/-
  Memory words for lists of fields: which blocks may have turned; a slice that reads as fields; appends of fields.
-/
import Derived.Test.YtmjnjjjhdcecbaaDoorG
import Derived.Maps.AppendAt
import Derived.OwnWalk
namespace Go.Proofs.YtmjnjjjhdcecbaaDoor
open Go.RowKit

/-- Of the blocks that lay there those in 'ok' lie as they lay; none has gone. -/
structure Frm (ok : Nat → Prop) (w w' : World) : Prop where
  os : w'.os = w.os
  tape : w'.tape = w.tape
  output : w'.output = w.output
  size : w.heap.size ≤ w'.heap.size
  block : ∀ k, k < w.heap.size → ok k → w'.heap[k]? = w.heap[k]?

section
variable {ok ok' : Nat → Prop} {w w1 w2 : World}
theorem Frm.refl (ok : Nat → Prop) (w : World) : Frm ok w w := ⟨rfl, rfl, rfl, Nat.le_refl _, fun _ _ _ => rfl⟩
theorem Frm.trans (h : Frm ok w w1) (k : Frm ok w1 w2) : Frm ok w w2 :=
  ⟨k.os.trans h.os, k.tape.trans h.tape, k.output.trans h.output, Nat.le_trans h.size k.size, fun i hi ho => (k.block i (Nat.lt_of_lt_of_le hi h.size) ho).trans (h.block i hi ho)⟩
theorem Frm.mono (h : Frm ok w w1) (hm : ∀ k, k < w.heap.size → ok' k → ok k) : Frm ok' w w1 := ⟨h.os, h.tape, h.output, h.size, fun k hk ho => h.block k hk (hm k hk ho)⟩
theorem Frm.drew (h : Frm ok w w1) : Frm ok w w1.drew := ⟨h.os, h.tape, h.output, h.size, h.block⟩
theorem Frm.undrew (h : Frm ok w.drew w1) : Frm ok w w1 := ⟨h.os, h.tape, h.output, h.size, h.block⟩
theorem Frm.alloc (h : Frm ok w w1) (o : Obj) : Frm ok w (w1.alloc o) :=
  ⟨h.os, h.tape, h.output, by rw [World.size_alloc]; have := h.size; omega, fun k hk ho => (Below.heap_alloc _ _ _ (by have := h.size; omega)).trans (h.block k hk ho)⟩
theorem Frm.setCell (h : Frm ok w w1) (b i : Nat) (v : Value) (hb : b < w.heap.size → ¬ ok b) : Frm ok w (w1.setCell ⟨b, i, none⟩ v) :=
  ⟨h.os, h.tape, h.output, by rw [World.size_setCell]; exact h.size, fun k hk ho => (Below.heap_setCell _ _ _ _ (fun e => hb (by simp only at e; omega) (by simp only at e; subst e; exact ho))).trans (h.block k hk ho)⟩
theorem Frm.of_below {B : Nat} (h : Below B w w1) (hm : ∀ k, k < w.heap.size → ok k → k < B) : Frm ok w w1 := ⟨h.os, h.tape, h.output, h.size, fun k hk ho => h.block k (hm k hk ho)⟩
theorem Frm.below {B : Nat} (h : Frm ok w w1) (hB : B ≤ w.heap.size) (hm : ∀ k, k < B → ok k) : Below B w w1 := ⟨h.os, h.tape, h.output, h.size, fun k hk => h.block k (by omega) (hm k hk)⟩
theorem Frm.grown {row : Option Nat} (h : Frm ok w w1) (hg : w1.grownBy w2 row) (hr : ∀ k, row = some k → k < w.heap.size → ¬ ok k) : Frm ok w w2 :=
  ⟨hg.os.trans h.os, hg.tape.trans h.tape, hg.output.trans h.output, Nat.le_trans h.size hg.size, fun k hk ho => (hg.block k (by have := h.size; omega) (fun e => hr k e.symm hk ho)).trans (h.block k hk ho)⟩
theorem Frm.cell (h : Frm ok w w1) {p : Addr} (hp : p.block < w.heap.size) (ho : ok p.block) : w1.cell? p = w.cell? p := World.cell?_of_block (w := w) (h.block p.block hp ho)
end

theorem owns_frm {ok : Nat → Prop} {w w' : World} {B : Nat} {e : TypeId} {z n : Nat} {v : Value} {xs : List Value} (h : w.ownsRow B e z v n xs) (hf : Frm ok w w') (hm : ∀ q, v.ownBlock = some q → ok q) : w'.ownsRow B e z v n xs := by
  obtain ⟨h1, h2⟩ := h
  refine ⟨h1, ?_⟩
  rcases h2 with h2 | ⟨g, cap, cur, hv, hg, hh, r⟩
  · exact .inl h2
  · exact .inr ⟨g, cap, cur, hv, hg, (hf.block g (lt_of_block hh) (hm g (by rw [hv]; rfl))).trans hh, r⟩

/-- A field: its name and its value. -/
abbrev Fd := ByteArray × ByteArray
def nofd : Fd := (ByteArray.empty, ByteArray.empty)
/-- Fields as cells. -/
def flat (l : List Fd) : List Value := l.flatMap fun f => [.string f.1, .string f.2]
theorem flat_len (l : List Fd) : (flat l).length = l.length * 2 := by
  induction l with
  | nil => rfl
  | cons f t ih => rw [show flat (f :: t) = .string f.1 :: .string f.2 :: flat t from rfl]; simp [ih]; omega
theorem flat_append (l m : List Fd) : flat (l ++ m) = flat l ++ flat m := by simp [flat]
theorem flat_at (l : List Fd) : ∀ i, i < l.length → (flat l)[i * 2]? = some (.string (l.getD i nofd).1) ∧ (flat l)[i * 2 + 1]? = some (.string (l.getD i nofd).2) := by
  induction l with
  | nil => intro i hi; simp at hi
  | cons f t ih =>
    intro i hi
    rw [show flat (f :: t) = .string f.1 :: .string f.2 :: flat t from rfl]
    cases i with
    | zero => exact ⟨rfl, rfl⟩
    | succ i =>
      obtain ⟨h1, h2⟩ := ih i (by simpa using hi)
      rw [show (i + 1) * 2 = i * 2 + 2 from by omega]
      exact ⟨h1, h2⟩
theorem flat_one (l : List Fd) : ∀ u ∈ flat l, u.oneCell' = true := by
  intro u hu
  obtain ⟨f, _, hf⟩ := List.mem_flatMap.1 hu
  simp only [List.mem_cons, List.not_mem_nil, or_false] at hf
  rcases hf with rfl | rfl <;> rfl

/-- The slice v reads as the fields l; its cells lie in a block in 'ok'. -/
def Flds (ok : Nat → Prop) (w : World) (v : Value) (l : List Fd) : Prop :=
  ∃ o cap, v = .slice o l.length cap ∧ l.length ≤ cap ∧ (cap ≤ maxLen ∧ (o = none → cap = 0)) ∧ (l ≠ [] → ∃ b off, o = some ⟨b, off, none⟩ ∧ ok b ∧ b < w.heap.size ∧
    ∀ i, i < l.length → w.cell? ⟨b, off + i * 2, none⟩ = some (.string (l.getD i nofd).1) ∧ w.cell? ⟨b, off + i * 2 + 1, none⟩ = some (.string (l.getD i nofd).2))

theorem Flds.kept {ok ok' : Nat → Prop} {w w' : World} {v : Value} {l : List Fd} (h : Flds ok w v l) (hf : Frm ok' w w') (hm : ∀ k, k < w.heap.size → ok k → ok' k) : Flds ok w' v l := by
  obtain ⟨o, cap, h1, h2, h3, h4⟩ := h
  refine ⟨o, cap, h1, h2, h3, fun hl => ?_⟩
  obtain ⟨b, off, g1, g2, g3, g4⟩ := h4 hl
  exact ⟨b, off, g1, g2, Nat.lt_of_lt_of_le g3 hf.size, fun i hi => ⟨(hf.cell (p := ⟨b, off + i * 2, none⟩) g3 (hm _ g3 g2)).trans (g4 i hi).1, (hf.cell (p := ⟨b, off + i * 2 + 1, none⟩) g3 (hm _ g3 g2)).trans (g4 i hi).2⟩⟩
theorem Flds.mono {ok ok' : Nat → Prop} {w : World} {v : Value} {l : List Fd} (h : Flds ok w v l) (hm : ∀ k, k < w.heap.size → ok k → ok' k) : Flds ok' w v l := by
  obtain ⟨o, cap, h1, h2, h3, h4⟩ := h
  exact ⟨o, cap, h1, h2, h3, fun hl => by obtain ⟨b, off, g1, g2, g3, g4⟩ := h4 hl; exact ⟨b, off, g1, hm _ g3 g2, g3, g4⟩⟩
theorem Flds.of_owns {ok : Nat → Prop} {w : World} {B n : Nat} {v : Value} {l : List Fd} (h : w.ownsRow B 42 2 v n (flat l)) (hn : n = l.length) (hm : ∀ k, v.ownBlock = some k → B ≤ k → k < w.heap.size → ok k) : Flds ok w v l := by
  subst hn
  obtain ⟨_, h2⟩ := h
  rcases h2 with ⟨rfl, h2⟩ | ⟨g, cap, cur, rfl, h3, h4, h5, h6, h7, h8⟩
  · have := List.length_eq_zero_iff.1 h2
    subst this
    exact ⟨none, 0, rfl, Nat.le_refl _, ⟨Nat.zero_le _, fun _ => rfl⟩, fun h => (h rfl).elim⟩
  · refine ⟨some ⟨g, 0, none⟩, cap, rfl, h5, ⟨h6, fun e => by cases e⟩, fun _ => ⟨g, 0, rfl, hm g rfl h3 (lt_of_block h4), lt_of_block h4, fun i hi => ?_⟩⟩
    obtain ⟨q1, q2⟩ := flat_at l i hi
    rw [← h8, List.getElem?_take, if_pos (by omega)] at q1 q2
    rw [Array.getElem?_toList] at q1 q2
    refine ⟨?_, ?_⟩
    · simp [World.cell?, h4, q1]
    · simp [World.cell?, h4, q2]
theorem Flds.one {w : World} {N : Nat} {t : TypeId} {fr : Nat × Nat} (a b : ByteArray) (h : w.heap[N]? = some (.cells #[.string a, .string b] t fr)) : Flds (fun _ => True) w (.slice (some ⟨N, 0, none⟩) 1 1) [(a, b)] := by
  refine ⟨_, 1, rfl, Nat.le_refl _, ⟨by unfold maxLen; omega, fun e => by cases e⟩, fun _ => ⟨N, 0, rfl, trivial, lt_of_block h, fun i hi => ?_⟩⟩
  obtain rfl : i = 0 := by simpa using hi
  simp [World.cell?, h]

theorem finfo42 : (Tryd.prog.info? 42).map (fun i => (i.zero, i.size, i.bytes)) = some (some (.agg #[.string ⟨#[]⟩, .string ⟨#[]⟩]), 2, 32) := by kernel_rfl

theorem run_append_flds {ok : Nat → Prop} (w : World) (ty : TypeId) (base : Nat) (v : Value) (n : Nat) (xs : List Value) (hown : w.ownsRow base 42 2 v n xs) (vx : Value) (l : List Fd) (hb : Flds ok w vx l)
    (hlen : n + l.length ≤ 4000000) (hbase : base ≤ w.heap.size) :
    ∃ o' c' w', (Builtin.append_ #[31, 31] ty #[v, vx]).run Tryd.prog w = .ok (.slice o' (n + l.length) c') w' ∧ w'.ownsRow base 42 2 (.slice o' (n + l.length) c') (n + l.length) (xs ++ flat l) ∧
      w.grownBy w' v.ownBlock ∧ ((Value.slice o' (n + l.length) c').ownBlock = v.ownBlock ∨ (Value.slice o' (n + l.length) c').ownBlock = some w.heap.size) := by
  obtain ⟨i0, hi, hz0, hz1, hz2⟩ := info_parts finfo42
  obtain ⟨o, cap, rfl, _, ⟨_, h3⟩, h4⟩ := hb
  rcases o with _ | ad
  · have hl : l = [] := by
      cases l with
      | nil => rfl
      | cons f t => obtain ⟨b, off, h, _⟩ := h4 (by simp); cases h
    subst hl
    obtain rfl := h3 rfl
    have hr := run_append_owned_none (P := Tryd.prog) (w := w) base 31 ty 42 i0 2 Tryd.underlying31 hi v n xs hown
    rcases hown.2 with ⟨rfl, rfl⟩ | ⟨g, cap', cur, rfl, _⟩
    · exact ⟨none, 0, w, hr, by simpa [flat] using hown, ⟨rfl, rfl, rfl, Nat.le_refl _, fun _ _ _ => rfl⟩, .inl rfl⟩
    · exact ⟨_, _, w, hr, by simpa [flat] using hown, ⟨rfl, rfl, rfl, Nat.le_refl _, fun _ _ _ => rfl⟩, .inl rfl⟩
  · obtain ⟨v', w', hr, h2, h3, _, h5⟩ := run_append_own_at (P := Tryd.prog) w base 31 ty 42 i0 _ 2 32 Tryd.underlying31 hi hz0 hz1 hz2 rfl (by decide) v n xs hown ad l.length cap (flat l) (by rw [flat_len]) (fun j u hj => by
      have hjl : j < l.length * 2 := by
        have := (List.getElem?_eq_some_iff.1 hj).1
        rwa [flat_len] at this
      obtain ⟨b, off, g1, _, _, g4⟩ := h4 (by intro e; rw [e] at hjl; simp at hjl)
      simp only [Option.some.injEq] at g1
      subst g1
      rw [WideShapes.add_plain]
      obtain ⟨k, hk⟩ : ∃ k, j = k * 2 ∨ j = k * 2 + 1 := ⟨j / 2, by omega⟩
      rcases hk with rfl | rfl
      · obtain ⟨q1, _⟩ := flat_at l k (by omega)
        rw [(g4 k (by omega)).1, ← hj, q1]
      · obtain ⟨_, q2⟩ := flat_at l k (by omega)
        rw [← Nat.add_assoc, (g4 k (by omega)).2, ← hj, q2]) (flat_one l) (by unfold maxLen; omega) (by omega) hbase
    have h2' := h2
    rcases h2.2 with ⟨rfl, h0⟩ | ⟨g, cap', cur, rfl, _⟩
    · exact ⟨none, 0, w', by rw [h0]; exact hr, by rw [h0] at h2' ⊢; exact h2', h3, by rw [h0]; exact h5⟩
    · exact ⟨_, _, w', hr, h2', h3, h5⟩

theorem wpList_append_flds {w : World} {ops : Array Oper} {rest : List Oper} {o : Oper} {a : Act} {Q : Exit → Act → World → Prop} {ok : Nat → Prop} (hgd : o.guard = none) (s x : Operand)
    (ho : o.op = .call { callee := .builtin .append, args := #[s, x], argTypes := #[31, 31] }) (base : Nat)
    (v : Value) (n : Nat) (xs : List Value) (hs : a.eval s = v) (hown : w.ownsRow base 42 2 v n xs) (vx : Value) (l : List Fd) (hx : a.eval x = vx) (hb : Flds ok w vx l)
    (hlen : n + l.length ≤ 4000000) (hbase : base ≤ w.heap.size)
    (h : ∀ o' c' w', w'.ownsRow base 42 2 (.slice o' (n + l.length) c') (n + l.length) (xs ++ flat l) → w.grownBy w' v.ownBlock → ((Value.slice o' (n + l.length) c').ownBlock = v.ownBlock ∨ (Value.slice o' (n + l.length) c').ownBlock = some w.heap.size) →
      wpList Tryd.prog ops Q rest (a.put o.dst (.slice o' (n + l.length) c')) w') : wpList Tryd.prog ops Q (o :: rest) a w := by
  refine wpList_plain hgd fun K hK => ?_
  obtain ⟨o', c', w', hr, h2, h3, h4⟩ := run_append_flds w o.type base v n xs hown vx l hb hlen hbase
  unfold Oper.wp execOp
  simp only [ho, resolve, invoke, builtin, Sem.run_bind, Sem.run_pure, Result.andThen_ok, List.map_toArray, List.map_cons, List.map_nil, hs, hx, hr]
  exact hK _ _ (h o' c' w' h2 h3 h4)
end Go.Proofs.YtmjnjjjhdcecbaaDoor
