/-
  Slices cut at their begin; bytes that came in, opened.
-/
import Derived.Test.YtmgkomobamjneaaL
import Derived.Test.YtmgkomobamjneaaK
namespace Go.Proofs.Ytmgkomobamjneaa
open Go.RowKit

/-- Where 's[l:]' points. -/
def SliceTo (p o2 : Option Addr) (l len : Nat) : Prop := (p = none → o2 = none) ∧ ∀ a, p = some a → ∃ a2, o2 = some a2 ∧ (l < len → a2 = a.add l)

theorem wpList_slice_l {w : World} {ops : Array Oper} {rest : List Oper} {o : Oper} {a : Act} {Q : Exit → Act → World → Prop} (hgd : o.guard = none) (x lo : Operand)
    (ho : o.op = .slice 22 x (some lo) none none) (p : Option Addr) (len cap : Nat) (hx : a.eval x = .slice p len cap) (l : Nat) (L : Int) (hl : a.eval lo = .int .i64 L) (eL : L = l)
    (h1 : l ≤ len) (h2 : len ≤ cap) (K : ∀ o2, SliceTo p o2 l len → wpList Try.prog ops Q rest (a.put o.dst (.slice o2 (len - l) (cap - l))) w) : wpList Try.prog ops Q (o :: rest) a w := by
  refine wpList_plain hgd fun K' hK => ?_
  subst eL
  have hu : Try.prog.underlying 22 = some (.slice 5) := Try.underlying22
  have hsz : (sizeOf 5).run Try.prog w = .ok 1 w := by kernel_rfl
  have hrun : (Instr.sliceAt 22 (.slice p len cap) (some (.int .i64 (l : Nat))) none none).run Try.prog w = .ok (.slice (if cap = l then p else p.map (·.add l)) (len - l) (cap - l)) w := by
    rw [run_sliceAt_slice w 22 _ _ _ _ hu, run_slice_l w 22 p len cap hu .i64 l (by omega) (by omega)]
    show ((sizeOf 5).run Try.prog w).andThen _ = _
    rw [hsz]
    simp [Result.andThen, sliced]
  unfold Oper.wp
  simp [execOp, ho, hx, hl, hrun, Result.andThen]
  refine hK _ _ (K _ ⟨fun e => ?_, fun a e => ?_⟩)
  · subst e
    split <;> rfl
  · subst e
    by_cases hc : cap = l
    · rw [if_pos hc]
      exact ⟨a, rfl, fun h => by omega⟩
    · rw [if_neg hc]
      exact ⟨a.add l, rfl, fun _ => rfl⟩

theorem Bytes.dropB {ok : Nat → Prop} {w : World} {a : Addr} {cap K : Nat} {l : List UInt8} (h : Bytes ok w (.slice (some a) l.length cap) l) (hK : K ≤ l.length) (a' : Addr) (ha : K < l.length → a' = a.add K) :
    Bytes ok w (.slice (some a') (l.length - K) (cap - K)) (l.drop K) := by
  obtain ⟨o, cap', e, h1, h2, h4⟩ := h.form
  cases e
  have hlen : (l.drop K).length = l.length - K := List.length_drop
  refine .inr ⟨a', cap - K, by rw [hlen], by omega, by omega, fun hne => ?_⟩
  have hlt : K < l.length := by
    by_cases hh : K < l.length
    · exact hh
    · exact (hne (List.drop_eq_nil_of_le (by omega))).elim
  obtain ⟨b, off, e, q1, q2, q3⟩ := h4 (by intro e; rw [e] at hlt; simp at hlt)
  cases e
  rw [ha hlt, WideShapes.add_plain]
  refine ⟨rfl, q1, q2, fun i hi => ?_⟩
  rw [hlen] at hi
  show w.cell? ⟨b, off + K + i, none⟩ = _
  rw [show off + K + i = off + (K + i) by omega, q3 (K + i) (by omega)]
  simp [List.getD, List.getElem?_drop]

theorem Bytes.cutTo {ok : Nat → Prop} {w : World} {p o2 : Option Addr} {cap k : Nat} {l : List UInt8} (h : Bytes ok w (.slice p l.length cap) l) (hk : k ≤ l.length) (hs : SliceTo p o2 k l.length) : Bytes ok w (.slice o2 (l.length - k) (cap - k)) (l.drop k) := by
  rcases p with _ | a
  · obtain rfl := hs.1 rfl
    rcases h with ⟨e, rfl⟩ | ⟨_, _, e, _⟩
    · injection e with _ _ e3
      subst e3
      exact .inl ⟨by simp, by simp⟩
    · injection e with e1; cases e1
  · obtain ⟨a2, rfl, ha⟩ := hs.2 a rfl
    exact Bytes.dropB h hk a2 ha

theorem weightsAll_mem {H : Type} {P : Program} {e : TypeId} : ∀ {l : List (DataW H)} {d : DataW H}, d ∈ l → ∀ n ∈ d.weights P e, n ∈ DataW.weightsAll P e l
  | d' :: r, d, hd, n, hn => by
    simp only [DataW.weightsAll, List.mem_append]
    rcases List.mem_cons.1 hd with rfl | h
    · exact Or.inl hn
    · exact Or.inr (weightsAll_mem h n hn)
theorem bd_u8 {z : Int} (h : (Lit.int .u8 z).wf = true) : 0 ≤ z ∧ z ≤ 255 := by
  simp [Lit.wf, IntKind.min, IntKind.max, IntKind.signed, IntKind.bits] at h
  omega
theorem bd_i64 {z : Int} (h : (Lit.int .i64 z).wf = true) : -9223372036854775808 ≤ z ∧ z ≤ 9223372036854775807 := by
  simp [Lit.wf, IntKind.min, IntKind.max, IntKind.signed, IntKind.bits] at h
  omega
end Go.Proofs.Ytmgkomobamjneaa
