/-
  An append of bytes onto a slice of the call's own; the law of reading on and on.
-/
import Derived.Test.YtellnnkgfjhmpaaE
import Derived.Laws.AppendOwnNone
namespace Go.Proofs.Ytellnnkgfjhmpaa
open Go.RowKit

theorem wpList_append_bytes {w : World} {ops : Array Oper} {rest : List Oper} {o : Oper} {a : Act} {Q : Exit → Act → World → Prop} {ok : Nat → Prop} (hgd : o.guard = none) (s x : Operand)
    (ho : o.op = .call { callee := .builtin .append, args := #[s, x], argTypes := #[31, 31] }) (base : Nat)
    (v : Value) (n : Nat) (xs : List Value) (hs : a.eval s = v) (hown : w.ownsRow base 5 1 v n xs) (vx : Value) (l : List UInt8) (hx : a.eval x = vx) (hb : Bytes ok w vx l)
    (hlen : n + l.length ≤ 140737488355328) (hbase : base ≤ w.heap.size)
    (h : ∀ o' c' w', w'.ownsRow base 5 1 (.slice o' (n + l.length) c') (n + l.length) (xs ++ l.map byteVal) → w.grownBy w' v.ownBlock → wpList Try.prog ops Q rest (a.put o.dst (.slice o' (n + l.length) c')) w') : wpList Try.prog ops Q (o :: rest) a w := by
  obtain ⟨i0, hi, hz0, hz1, hz2⟩ := info_parts Try.info5
  rcases hb with ⟨rfl, rfl⟩ | ⟨ad, cap, rfl, _, _, h4⟩
  · refine wpList_append_own_none hgd s x 31 ho base 5 i0 1 Try.underlying31 hi v n xs hs hown hx ?_
    rcases hown.2 with ⟨rfl, rfl⟩ | ⟨g, cap, cur, rfl, _⟩
    · exact h none 0 w (by simpa using hown) ⟨rfl, rfl, rfl, Nat.le_refl _, fun _ _ _ => rfl⟩
    · exact h _ _ w (by simpa using hown) ⟨rfl, rfl, rfl, Nat.le_refl _, fun _ _ _ => rfl⟩
  · refine wpList_append_own _ hgd s x 31 ho base 5 i0 _ 1 1 Try.underlying31 hi hz0 hz1 hz2 rfl (by decide) v n xs hs hown ad l.length cap (l.map byteVal) hx (by simp) (fun j u hj => ?_) (byteVal_cell l) (by unfold maxLen; omega) (by omega) hbase (fun v' w' h1 h2 _ => ?_)
    · have hjl : j < l.length := by
        have := (List.getElem?_eq_some_iff.1 hj).1
        simpa using this
      obtain ⟨g1, _, g3, g4⟩ := h4 (by intro e; rw [e] at hjl; simp at hjl)
      obtain ⟨b, off, spot⟩ := ad
      simp only at g1 g3 g4
      subst g1
      rw [WideShapes.add_plain, g4 j hjl, ← hj]
      simp [List.getD, hjl]
    · rcases h1.2 with ⟨rfl, h0⟩ | ⟨g, cap', cur, rfl, _⟩
      · rw [h0] at h1
        have := h none 0 w' (by rw [h0]; exact h1) h2
        rwa [h0] at this
      · exact h _ _ w' h1 h2

theorem tot_tail {p : List UInt8} {t : List (List UInt8)} : tot (p :: t) = p.length + 1 + tot t := by simp [tot]
theorem flat_tot (L : List (List UInt8)) : L.flatten.length ≤ tot L := by
  induction L with
  | nil => simp [tot]
  | cons p t ih => rw [tot_tail, List.flatten_cons, List.length_append]; omega
theorem flat_take {L : List (List UInt8)} {k : Nat} (h : k < L.length) : (L.take (k + 1)).flatten = (L.take k).flatten ++ L.getD k [] := by
  rw [List.take_add_one, List.getElem?_eq_getElem h]
  simp only [List.getD, List.getElem?_eq_getElem h, Option.toList_some, Option.getD_some, List.flatten_append, List.flatten_cons, List.flatten_nil, List.append_nil]

/-- One reading on: the end, or nearer to it. -/
theorem readOf_step (L : List (List UInt8)) (beg : Bool) (n : Nat) (hn : 1 ≤ n) :
    ((readOf L beg 1 n).2.2.2 = 7 ∧ (readOf L beg 1 n).2.2.1 = [] ∧ L.flatten = []) ∨
    ((readOf L beg 1 n).2.2.2 = 0 ∧ L.flatten = (readOf L beg 1 n).2.2.1 ++ (readOf L beg 1 n).1.flatten ∧ tot (readOf L beg 1 n).1 + 1 ≤ tot L) := by
  have main : ∀ (L' : List (List UInt8)) (beg' : Bool), skip L beg = (L', beg') → L.flatten = L'.flatten → tot L' ≤ tot L → _ := fun L' beg' e1 e2 e3 => by
    show ((readOf L beg 1 n).2.2.2 = 7 ∧ (readOf L beg 1 n).2.2.1 = [] ∧ L.flatten = []) ∨ ((readOf L beg 1 n).2.2.2 = 0 ∧ L.flatten = (readOf L beg 1 n).2.2.1 ++ (readOf L beg 1 n).1.flatten ∧ tot (readOf L beg 1 n).1 + 1 ≤ tot L)
    unfold readOf
    rw [e1]
    rcases L' with _ | ⟨p, t⟩
    · exact .inl ⟨rfl, rfl, e2⟩
    · rcases p with _ | ⟨c, q⟩
      · refine .inr ⟨rfl, e2, ?_⟩
        rw [tot_tail] at e3
        simp only [List.length_nil] at e3
        show tot t + 1 ≤ tot L
        omega
      · refine .inr ⟨rfl, ?_, ?_⟩
        · rw [e2]
          show (c :: q) ++ t.flatten = (c :: q).take n ++ ((c :: q).drop n ++ t.flatten)
          rw [← List.append_assoc, List.take_append_drop]
        · rw [tot_tail] at e3
          show tot ((c :: q).drop n :: t) + 1 ≤ tot L
          rw [tot_tail, List.length_drop]
          simp only [List.length_cons] at e3 ⊢
          omega
  rcases L with _ | ⟨p, t⟩
  · exact main [] beg (by cases beg <;> rfl) rfl (Nat.le_refl _)
  · rcases p with _ | ⟨c, q⟩
    · cases beg
      · exact main ([] :: t) false rfl rfl (Nat.le_refl _)
      · exact main t false rfl rfl (by rw [tot_tail]; omega)
    · exact main _ beg (by cases beg <;> rfl) rfl (Nat.le_refl _)
end Go.Proofs.Ytellnnkgfjhmpaa
