/-
  Memory words of filter.parted: its two lists, the marks of its loops; the append of fields inside a fence.
-/
import Derived.Test.YtmjnjjjhdcecbaaDoorI
import Derived.RangeFuncWrites
import Derived.RangeFuncFrom
import Derived.OwnWalkIn
namespace Go.Proofs.YtmjnjjjhdcecbaaDoor
open Go.RowKit Go.Shelf

/-- The mark of a loop over a function. -/
def mark (r : Nat) : Deferred := { target := .collected r, args := #[] }

theorem marks_leave {F : Fence} {n : Nat} {P : Program} {fn : Func} {tmps : Array Value} {R : Ending → World → Prop} : ∀ (rs : List Nat) (W : World), rs.Nodup → (∀ r ∈ rs, W.heap[r]? = some (.deferred (some []))) →
    (∀ W', Frm (fun q => q ∉ rs) W W' → ∃ v, (results fn tmps).run P W' = .ok v W' ∧ R (.returned v) W') → LeavesInM F n P fn tmps R (rs.map mark) .returning W := by
  intro rs
  induction rs with
  | nil => intro W _ _ h; exact h W (Frm.refl _ _)
  | cons r rs ih =>
    intro W hn hm h
    obtain ⟨hr, hn'⟩ := List.nodup_cons.1 hn
    refine ⟨by simp, .inl ⟨r, _, rfl, run_takeDeferred (hm r (by simp)), ?_⟩⟩
    have hother : ∀ q, q ≠ r → (W.putObj r (.deferred none)).heap[q]? = W.heap[q]? := fun q hq => World.putObj_heap_other (fun e => hq e)
    have hf : Frm (fun q => q ∉ r :: rs) W (W.putObj r (.deferred none)) := ⟨rfl, rfl, rfl, by simp, fun q _ hq => hother q (fun e => hq (by simp [e]))⟩
    refine ih _ hn' (fun q hq => (hother q (fun e => hr (by rw [← e]; exact hq))).trans (hm q (by simp [hq]))) (fun W' hW' => h W' (hf.trans (hW'.mono (fun q _ hq hq' => hq (by simp [hq'])))))

theorem own_cells {w : World} {B e z n : Nat} {v : Value} {xs : List Value} (h : w.ownsRow B e z v n xs) {q : Nat} (hq : v.ownBlock = some q) : ∃ cs, w.heap[q]? = some (.cells cs e (0, 0)) := by
  rcases h.2 with ⟨rfl, _⟩ | ⟨g, cap, cur, rfl, _, h4, _⟩
  · cases hq
  · cases hq; exact ⟨_, h4⟩

theorem owns_form {w : World} {B e z n : Nat} {v : Value} {xs : List Value} (h : w.ownsRow B e z v n xs) : ∃ o c, v = .slice o n c := by
  rcases h.2 with ⟨rfl, rfl⟩ | ⟨g, cap, cur, rfl, _⟩
  · exact ⟨none, 0, rfl⟩
  · exact ⟨_, _, rfl⟩

/-- What parted holds: the list kept, the cell of the list dropped, that list, the marks. -/
structure PSt (w W : World) (kv dv : Value) (K D : List Fd) (rs : List Nat) : Prop where
  keep : W.ownsRow w.heap.size 42 2 kv K.length (flat K)
  cell : W.heap[w.heap.size]? = some (.cells #[dv] 31 (0, 0))
  drop : W.ownsRow w.heap.size 42 2 dv D.length (flat D)
  apart : ∀ q, kv.ownBlock = some q → dv.ownBlock ≠ some q
  marks : ∀ r ∈ rs, w.heap.size ≤ r ∧ W.heap[r]? = some (.deferred (some []))
  nodup : rs.Nodup
  below : Below w.heap.size w W

section
variable {w W W' : World} {kv dv : Value} {K D : List Fd} {rs : List Nat}

theorem PSt.frm {ok : Nat → Prop} (h : PSt w W kv dv K D rs) (hf : Frm ok W W') (h1 : ∀ q, kv.ownBlock = some q → ok q) (h2 : ok w.heap.size) (h3 : ∀ q, dv.ownBlock = some q → ok q) (h4 : ∀ r ∈ rs, ok r) (h5 : ∀ q, q < w.heap.size → ok q) :
    PSt w W' kv dv K D rs :=
  ⟨owns_frm h.keep hf h1, (hf.block _ (lt_of_block h.cell) h2).trans h.cell, owns_frm h.drop hf h3, h.apart, fun r hr => ⟨(h.marks r hr).1, (hf.block _ (lt_of_block (h.marks r hr).2) (h4 r hr)).trans (h.marks r hr).2⟩, h.nodup,
    h.below.trans (hf.below h.below.size h5)⟩
theorem PSt.kept (h : PSt w W kv dv K D rs) (hb : Below W.heap.size W W') : PSt w W' kv dv K D rs :=
  h.frm (ok := fun _ => True) (Frm.of_below hb (fun _ hq _ => hq)) (fun _ _ => trivial) trivial (fun _ _ => trivial) (fun _ _ => trivial) (fun _ _ => trivial)

/-- It abides whatever turns a block that is no cells and lies at or beyond B. -/
theorem PSt.own {row : Option Nat} {B : Nat} (h : PSt w W kv dv K D rs) (hB : w.heap.size ≤ B) (hrs : ∀ r ∈ rs, r < B) (hg : W.grownBy W' row) (hr : ∀ r, row = some r → B ≤ r ∧ ∃ o : Obj, W.heap[r]? = some o ∧ o.isCells = false) : PSt w W' kv dv K D rs := by
  have hno : ∀ q cs t fr, W.heap[q]? = some (.cells cs t fr) → row ≠ some q := fun q cs t fr hc e => by
    obtain ⟨_, o, ho, hc'⟩ := hr q e
    rw [hc] at ho
    cases ho
    cases hc'
  refine h.frm (ok := fun q => row ≠ some q) ((Frm.refl _ _).grown hg (fun k e _ hk => hk e)) (fun q hq => ?_) (hno _ _ _ _ h.cell) (fun q hq => ?_) (fun r hr' e => ?_) (fun q hq e => ?_)
  · obtain ⟨cs, hc⟩ := own_cells h.keep hq
    exact hno _ _ _ _ hc
  · obtain ⟨cs, hc⟩ := own_cells h.drop hq
    exact hno _ _ _ _ hc
  · have := hrs r hr'; have := (hr r e).1; omega
  · have := (hr q e).1; omega

theorem PSt.keepAdd {kv' : Value} {K' : List Fd} {o : Obj} (h : PSt w W kv dv K D rs) (hown : W'.ownsRow w.heap.size 42 2 kv' K'.length (flat K')) (hg : (W.alloc o).grownBy W' kv.ownBlock)
    (hat : kv'.ownBlock = kv.ownBlock ∨ kv'.ownBlock = some (W.alloc o).heap.size) : PSt w W' kv' dv K' D rs := by
  have hf : Frm (fun q => kv.ownBlock ≠ some q) W W' := ((Frm.refl _ W).alloc o).grown hg (fun k e _ hk => hk e)
  have hc : kv.ownBlock ≠ some w.heap.size := fun e => by
    obtain ⟨cs, hc⟩ := own_cells h.keep e
    have := h.cell.symm.trans hc
    simp at this
  refine ⟨hown, (hf.block _ (lt_of_block h.cell) hc).trans h.cell, owns_frm h.drop hf (fun q hq e => h.apart q e hq), fun q hq hq' => ?_, fun r hr => ⟨(h.marks r hr).1, (hf.block _ (lt_of_block (h.marks r hr).2) (fun e => ?_)).trans (h.marks r hr).2⟩, h.nodup,
    h.below.trans (hf.below h.below.size (fun q hq e => by have := (World.ownsRow.lt h.keep q e).1; omega))⟩
  · have hlt := (World.ownsRow.lt h.drop q hq').2
    rcases hat with hat | hat
    · exact h.apart q (hat.symm.trans hq) hq'
    · rw [hat] at hq
      simp at hq
      omega
  · obtain ⟨cs, hc'⟩ := own_cells h.keep e
    have := (h.marks r hr).2.symm.trans hc'
    simp at this

theorem PSt.reset (h : PSt w W kv dv K D rs) : PSt w (W.setCell ⟨w.heap.size, 0, none⟩ dv).drew kv dv K D rs := by
  have hf : Frm (fun q => q ≠ w.heap.size) W (W.setCell ⟨w.heap.size, 0, none⟩ dv).drew := ((Frm.refl _ W).setCell _ _ _ (fun _ h => h rfl)).drew
  have hno : ∀ q cs, W.heap[q]? = some (.cells cs 42 (0, 0)) → q ≠ w.heap.size := fun q cs hc e => by
    rw [e] at hc
    have := h.cell.symm.trans hc
    simp at this
  refine ⟨owns_frm h.keep hf (fun q hq => ?_), row_setCell' (w := W) h.cell, owns_frm h.drop hf (fun q hq => ?_), h.apart, fun r hr => ⟨(h.marks r hr).1, (hf.block _ (lt_of_block (h.marks r hr).2) (fun e => ?_)).trans (h.marks r hr).2⟩, h.nodup,
    h.below.trans (hf.below h.below.size (fun q hq => by omega))⟩
  · obtain ⟨cs, hc⟩ := own_cells h.keep hq
    exact hno _ _ hc
  · obtain ⟨cs, hc⟩ := own_cells h.drop hq
    exact hno _ _ hc
  · have h1 := (h.marks r hr).2
    rw [e, h.cell] at h1
    simp at h1
theorem PSt.left (h : PSt w W kv dv K D rs) (hf : Frm (fun q => q ∉ rs) W W') : PSt w W' kv dv K D [] := by
  have hno : ∀ q cs t fr, W.heap[q]? = some (.cells cs t fr) → q ∉ rs := fun q cs t fr hc hq => by
    have := (h.marks q hq).2.symm.trans hc
    simp at this
  refine ⟨owns_frm h.keep hf (fun q hq => ?_), (hf.block _ (lt_of_block h.cell) (hno _ _ _ _ h.cell)).trans h.cell, owns_frm h.drop hf (fun q hq => ?_), h.apart, fun r hr => by (cases hr), List.nodup_nil,
    h.below.trans (hf.below h.below.size (fun q hq hq' => by have := (h.marks q hq').1; omega))⟩
  · obtain ⟨cs, hc⟩ := own_cells h.keep hq
    exact hno _ _ _ _ hc
  · obtain ⟨cs, hc⟩ := own_cells h.drop hq
    exact hno _ _ _ _ hc

theorem PSt.dropCell {o : Obj} (h : PSt w W kv dv K D rs) (hg : (W.alloc o).grownBy W' dv.ownBlock) : W'.heap[w.heap.size]? = some (.cells #[dv] 31 (0, 0)) := by
  have hf0 : Frm (fun q => dv.ownBlock ≠ some q) W W' := ((Frm.refl _ W).alloc o).grown hg (fun k e _ hk => hk e)
  refine (hf0.block _ (lt_of_block h.cell) (fun e => ?_)).trans h.cell
  obtain ⟨cs, hc⟩ := own_cells h.drop e
  have := h.cell.symm.trans hc
  simp at this
theorem PSt.dropAdd {dv' : Value} {D' : List Fd} {o : Obj} (h : PSt w W kv dv K D rs) (hown : W'.ownsRow w.heap.size 42 2 dv' D'.length (flat D')) (hg : (W.alloc o).grownBy W' dv.ownBlock)
    (hat : dv'.ownBlock = dv.ownBlock ∨ dv'.ownBlock = some (W.alloc o).heap.size) : PSt w (W'.setCell ⟨w.heap.size, 0, none⟩ dv') kv dv' K D' rs := by
  have hf0 : Frm (fun q => dv.ownBlock ≠ some q) W W' := ((Frm.refl _ W).alloc o).grown hg (fun k e _ hk => hk e)
  have hf : Frm (fun q => dv.ownBlock ≠ some q ∧ q ≠ w.heap.size) W (W'.setCell ⟨w.heap.size, 0, none⟩ dv') := (hf0.mono (fun _ _ h => h.1)).setCell _ _ _ (fun _ h => h.2 rfl)
  have hc : dv.ownBlock ≠ some w.heap.size := fun e => by
    obtain ⟨cs, hc⟩ := own_cells h.drop e
    have := h.cell.symm.trans hc
    simp at this
  have hc' : dv'.ownBlock ≠ some w.heap.size := by
    rcases hat with hat | hat
    · rw [hat]; exact hc
    · rw [hat]
      have := lt_of_block h.cell
      simp
      omega
  refine ⟨owns_frm h.keep hf (fun q hq => ⟨h.apart q hq, fun e => ?_⟩), ?_, owns_frm hown ((Frm.refl (fun q => q ≠ w.heap.size) W').setCell _ _ _ (fun _ h => h rfl)) (fun q hq e => hc' (by rw [hq, e])), fun q hq hq' => ?_,
    fun r hr => ⟨(h.marks r hr).1, (hf.block _ (lt_of_block (h.marks r hr).2) ⟨fun e => ?_, fun e => ?_⟩).trans (h.marks r hr).2⟩, h.nodup, h.below.trans (hf.below h.below.size (fun q hq => ⟨fun e => by have := (World.ownsRow.lt h.drop q e).1; omega, by omega⟩))⟩
  · obtain ⟨cs, hcs⟩ := own_cells h.keep hq
    rw [e] at hcs
    have := h.cell.symm.trans hcs
    simp at this
  · exact row_setCell' ((hf0.block _ (lt_of_block h.cell) hc).trans h.cell)
  · have hlt := (World.ownsRow.lt h.keep q hq).2
    rcases hat with hat | hat
    · exact h.apart q hq (hat.symm.trans hq')
    · rw [hat] at hq'
      simp at hq'
      omega
  · obtain ⟨cs, hcs⟩ := own_cells h.drop e
    have := (h.marks r hr).2.symm.trans hcs
    simp at this
  · have h1 := (h.marks r hr).2
    rw [e, h.cell] at h1
    simp at h1
end

theorem wpListIn_append_flds {F : Fence} {m : Nat} {w : World} {ops : Array Oper} {rest : List Oper} {o : Oper} {a : Act} {Q : Exit → Act → World → Prop} {ok : Nat → Prop} (hgd : o.guard = none) (s x : Operand)
    (ho : o.op = .call { callee := .builtin .append, args := #[s, x], argTypes := #[31, 31] }) (base : Nat)
    (v : Value) (n : Nat) (xs : List Value) (hs : a.eval s = v) (hown : w.ownsRow base 42 2 v n xs) (vx : Value) (l : List Fd) (hx : a.eval x = vx) (hb : Flds ok w vx l)
    (hlen : n + l.length ≤ 4000000) (hbase : base ≤ w.heap.size)
    (h : ∀ o' c' w', w'.ownsRow base 42 2 (.slice o' (n + l.length) c') (n + l.length) (xs ++ flat l) → w.grownBy w' v.ownBlock → ((Value.slice o' (n + l.length) c').ownBlock = v.ownBlock ∨ (Value.slice o' (n + l.length) c').ownBlock = some w.heap.size) →
      wpListIn F m Tryd.prog ops Q rest (a.put o.dst (.slice o' (n + l.length) c')) w') : wpListIn F m Tryd.prog ops Q (o :: rest) a w := by
  refine wpListIn_plain hgd fun K hK => ?_
  obtain ⟨o', c', w', hr, h2, h3, h4⟩ := run_append_flds w o.type base v n xs hown vx l hb hlen hbase
  unfold Oper.wpIn
  refine ⟨?_, ?_⟩
  · simp [Oper.about, ho, resolve, Target.leads, Sem.run_pure]
  · rw [Oper.semAt_plain F _ _ (by rw [ho]; intro c hc'; cases hc')]
    simp [execOp, ho, resolve, invoke, builtin, hs, hx, hr, Result.andThen]
    exact hK _ _ (h o' c' w' h2 h3 h4)
end Go.Proofs.YtmjnjjjhdcecbaaDoor
