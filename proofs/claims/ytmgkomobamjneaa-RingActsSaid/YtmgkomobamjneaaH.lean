/-
  The contract of Read; appends of bytes; the reference's First, Read, Write.
-/
import Derived.Test.YtmgkomobamjneaaG
import Derived.Laws.AppendOwnNone
import Derived.Deep.RegionHeld3
import Derived.Deep.AppendLies
import Derived.Deep.RegionLaw
namespace Go.Proofs.Ytmgkomobamjneaa
open Go.RowKit

theorem Bytes.take {ok : Nat → Prop} {w : World} {o : Option Addr} {m cap k : Nat} {l : List UInt8} (h : Bytes ok w (.slice o m cap) l) (hm : l.length = m) (hk : k ≤ m) (hc : m ≤ cap) (hc2 : cap ≤ maxLen) : Bytes ok w (.slice o k cap) (l.take k) := by
  have hlt : (l.take k).length = k := by rw [List.length_take]; omega
  rcases h with ⟨h1, h2⟩ | ⟨a, cap', h1, h2, h3, h4⟩
  · subst h2
    simp only [Value.slice.injEq] at h1
    obtain ⟨rfl, rfl, rfl⟩ := h1
    obtain rfl : k = 0 := by omega
    exact .inl ⟨rfl, rfl⟩
  · simp only [Value.slice.injEq] at h1
    obtain ⟨rfl, e, rfl⟩ := h1
    refine .inr ⟨a, cap, by rw [hlt], by omega, hc2, fun hne => ?_⟩
    obtain ⟨q1, q2, q3, q4⟩ := h4 (by rintro rfl; simp at hne)
    refine ⟨q1, q2, q3, fun i hi => ?_⟩
    rw [hlt] at hi
    rw [q4 i (by omega)]
    simp [List.getD, List.getElem?_take, hi]
theorem Bytes.drop {ok : Nat → Prop} {w : World} {o : Option Addr} {m cap k : Nat} {l : List UInt8} (h : Bytes ok w (.slice o m cap) l) (hm : l.length = m) (hk : k ≤ m) (hc : m ≤ cap) (hc2 : cap ≤ maxLen) (h1m : 1 ≤ m) :
    Bytes ok w (.slice (if cap = k then o else o.map (fun x => x.add k)) (m - k) (cap - k)) (l.drop k) := by
  have hlt : (l.drop k).length = m - k := by rw [List.length_drop]; omega
  rcases h with ⟨h1, h2⟩ | ⟨a, cap', h1, h2, h3, h4⟩
  · subst h2
    simp at hm
    omega
  · simp only [Value.slice.injEq] at h1
    obtain ⟨rfl, e, rfl⟩ := h1
    obtain ⟨q1, q2, q3, q4⟩ := h4 (by rintro rfl; simp at hm; omega)
    obtain ⟨ab, ao, asp⟩ := a
    simp only at q1 q2 q3 q4
    subst q1
    by_cases hcm : cap = k
    · refine .inr ⟨⟨ab, ao, none⟩, cap - k, by rw [hlt, if_pos hcm], by omega, by omega, fun hne => ?_⟩
      exact absurd hlt (by intro e2; exact hne (List.length_eq_zero_iff.1 (by omega)))
    · refine .inr ⟨⟨ab, ao + k, none⟩, cap - k, by rw [hlt, if_neg hcm, Option.map_some, WideShapes.add_plain], by omega, by omega, fun hne => ⟨rfl, q2, q3, fun i hi => ?_⟩⟩
      rw [hlt] at hi
      have := q4 (k + i) (by omega)
      simp only [Nat.add_assoc]
      rw [this]
      simp [List.getD, List.getElem?_drop]

theorem run_append_bytes {ok : Nat → Prop} (w : World) (ty : TypeId) (base : Nat) (v : Value) (n : Nat) (xs : List Value) (hown : w.ownsRow base 5 1 v n xs) (vx : Value) (l : List UInt8) (hb : Bytes ok w vx l)
    (hlen : n + l.length ≤ 140737488355328) (hbase : base ≤ w.heap.size) :
    ∃ o' c' w', (Builtin.append_ #[22, 22] ty #[v, vx]).run Try.prog w = .ok (.slice o' (n + l.length) c') w' ∧ w'.ownsRow base 5 1 (.slice o' (n + l.length) c') (n + l.length) (xs ++ l.map byteVal) ∧
      w.grownBy w' v.ownBlock ∧ ((Value.slice o' (n + l.length) c').ownBlock = v.ownBlock ∨ (Value.slice o' (n + l.length) c').ownBlock = some w.heap.size) := by
  obtain ⟨i0, hi, hz0, hz1, hz2⟩ := info_parts Try.info5
  rcases hb with ⟨rfl, rfl⟩ | ⟨ad, cap, rfl, _, _, h4⟩
  · have hr := run_append_owned_none (P := Try.prog) (w := w) base 22 ty 5 i0 1 Try.underlying22 hi v n xs hown
    rcases hown.2 with ⟨rfl, rfl⟩ | ⟨g, cap, cur, rfl, _⟩
    · exact ⟨none, 0, w, hr, by simpa using hown, ⟨rfl, rfl, rfl, Nat.le_refl _, fun _ _ _ => rfl⟩, .inl rfl⟩
    · exact ⟨_, _, w, hr, by simpa using hown, ⟨rfl, rfl, rfl, Nat.le_refl _, fun _ _ _ => rfl⟩, .inl rfl⟩
  · obtain ⟨v', w', hr, h2, h3, _, h5⟩ := run_append_own_at (P := Try.prog) w base 22 ty 5 i0 _ 1 1 Try.underlying22 hi hz0 hz1 hz2 rfl (by decide) v n xs hown ad l.length cap (l.map byteVal) (by simp) (fun j u hj => by
      have hjl : j < l.length := by
        have := (List.getElem?_eq_some_iff.1 hj).1
        simpa using this
      obtain ⟨g1, _, g3, g4⟩ := h4 (by intro e; rw [e] at hjl; simp at hjl)
      obtain ⟨b, off, spot⟩ := ad
      simp only at g1 g3 g4
      subst g1
      rw [WideShapes.add_plain, g4 j hjl, ← hj]
      simp [List.getD, hjl]) (byteVal_cell l) (by unfold maxLen; omega) (by omega) hbase
    have h2' := h2
    rcases h2.2 with ⟨rfl, h0⟩ | ⟨g, cap', cur, rfl, _⟩
    · exact ⟨none, 0, w', by rw [h0]; exact hr, by rw [h0] at h2' ⊢; exact h2', h3, by rw [h0]; exact h5⟩
    · exact ⟨_, _, w', hr, h2', h3, h5⟩

theorem wpList_append_bytes_at {w : World} {ops : Array Oper} {rest : List Oper} {o : Oper} {a : Act} {Q : Exit → Act → World → Prop} {ok : Nat → Prop} (hgd : o.guard = none) (s x : Operand)
    (ho : o.op = .call { callee := .builtin .append, args := #[s, x], argTypes := #[22, 22] }) (base : Nat)
    (v : Value) (n : Nat) (xs : List Value) (hs : a.eval s = v) (hown : w.ownsRow base 5 1 v n xs) (vx : Value) (l : List UInt8) (hx : a.eval x = vx) (hb : Bytes ok w vx l)
    (hlen : n + l.length ≤ 140737488355328) (hbase : base ≤ w.heap.size)
    (h : ∀ o' c' w', w'.ownsRow base 5 1 (.slice o' (n + l.length) c') (n + l.length) (xs ++ l.map byteVal) → w.grownBy w' v.ownBlock → ((Value.slice o' (n + l.length) c').ownBlock = v.ownBlock ∨ (Value.slice o' (n + l.length) c').ownBlock = some w.heap.size) →
      wpList Try.prog ops Q rest (a.put o.dst (.slice o' (n + l.length) c')) w') : wpList Try.prog ops Q (o :: rest) a w := by
  refine wpList_plain hgd fun K hK => ?_
  obtain ⟨o', c', w', hr, h2, h3, h4⟩ := run_append_bytes w o.type base v n xs hown vx l hb hlen hbase
  unfold Oper.wp execOp
  simp only [ho, resolve, invoke, builtin, Sem.run_bind, Sem.run_pure, Result.andThen_ok, List.map_toArray, List.map_cons, List.map_nil, hs, hx, hr]
  exact hK _ _ (h o' c' w' h2 h3 h4)

theorem step_append_bytes {w : World} {ops : Array Oper} {o : Oper} {a : Act} {K : Act → World → Prop} {Q : Exit → Act → World → Prop} {E : Prop} {ok : Nat → Prop} (hgd : o.guard = none) (s x : Operand)
    (ho : o.op = .call { callee := .builtin .append, args := #[s, x], argTypes := #[22, 22] }) (base : Nat)
    (v : Value) (n : Nat) (xs : List Value) (hs : a.eval s = v) (hown : w.ownsRow base 5 1 v n xs) (vx : Value) (l : List UInt8) (hx : a.eval x = vx) (hb : Bytes ok w vx l)
    (hlen : n + l.length ≤ 140737488355328) (hbase : base ≤ w.heap.size)
    (h : ∀ o' c' w', w'.ownsRow base 5 1 (.slice o' (n + l.length) c') (n + l.length) (xs ++ l.map byteVal) → w.grownBy w' v.ownBlock → ((Value.slice o' (n + l.length) c').ownBlock = v.ownBlock ∨ (Value.slice o' (n + l.length) c').ownBlock = some w.heap.size) →
      K (a.put o.dst (.slice o' (n + l.length) c')) w') : if Region.wanted o (yielded ops a.tmps) = true then Oper.wp Try.prog o a w K Q else E := by
  have hw : Region.wanted o (yielded ops a.tmps) = true := by simp [Region.wanted, hgd]
  rw [if_pos hw]
  obtain ⟨o', c', w', hr, h2, h3, h4⟩ := run_append_bytes w o.type base v n xs hown vx l hb hlen hbase
  unfold Oper.wp execOp
  simp only [ho, resolve, invoke, builtin, Sem.run_bind, Sem.run_pure, Result.andThen_ok, List.map_toArray, List.map_cons, List.map_nil, hs, hx, hr]
  exact h o' c' w' h2 h3 h4


theorem read_any (b g N h : Nat) (l : List UInt8) (n : Int) (w : World) (hr : Rng w b g N h l) (hn : n ≤ 9223372036854775807) :
    Calls Try.prog 13 #[.pointer (some ⟨b, 0, none⟩), .int .i64 n] w fun e w' => ∃ o c, e = .returned (.slice o (cut n l.length) c) ∧ w'.ownsRow w.heap.size 5 1 (.slice o (cut n l.length) c) (cut n l.length) ((l.take (cut n l.length)).map byteVal) ∧
      Rng w' b g N (ix N (h + cut n l.length)) (l.drop (cut n l.length)) ∧ Frm (fun q => q ≠ b) w w' := by
  have hb := hr.bd
  go_enter Try.func13, Try.ntmps13
  go_wp2_with fail
  refine (peek_any b g N h l n w hr hn).mono ?_
  rintro e w1 ⟨o, c, rfl, hown, hB⟩
  have F1 := Frm.of_below (ok := fun q => q < w.heap.size) hB (fun q _ hq => hq)
  have F1' := Frm.of_below (ok := fun _ => True) hB (fun q hq _ => hq)
  have hr1 := hr.kept F1 hb.2.2.2.1 hb.2.2.2.2
  have HOWN := Lib.hid hown
  clear hown
  go_wp2_with fail
  refine (drop_any b g N h l n w1 hr1 hn).mono ?_
  rintro e w2 ⟨rfl, hr2, hF2⟩
  have hown2 := owns_frm HOWN.out hF2 (fun q hq => by have := (HOWN.out.lt q hq).1; show q ≠ b; omega)
  have HR2 := Lib.hid hr2
  have HO2 := Lib.hid hown2
  clear hr2 hown2 hr1 hr
  go_wp2_with fail
  go_ret
  exact ⟨o, c, rfl, HO2.out, HR2.out, (F1'.mono (fun _ _ _ => trivial)).trans hF2⟩

/-- The document's ring by value. -/
def refV (N h : Nat) (o : Option Addr) (n c : Nat) : Value := .agg #[.int .i64 N, .int .i64 h, .slice o n c]

theorem refFirst_any (N h : Nat) (o : Option Addr) (n c : Nat) (w : World) (h1 : h ≤ N) (h2 : N ≤ 1000) :
    Calls Try.prog 28 #[.agg #[.int .i64 N, .int .i64 h, .slice o n c]] w fun e w' => e = .returned (.int .i64 (fst N h n : Nat)) ∧ Below w.heap.size w w' := by
  have hf : fst N h n = min n (N - h) := rfl
  by_cases hc : N - h < n
  · have e : ((fst N h n : Nat) : Int) = (N : Int) - h := by rw [hf]; omega
    rw [e]
    have hcc : ((N : Int) - h) < (n : Int) := by omega
    go_enter Try.func28, Try.ntmps28
    go_wp2
    go_ret
    exact ⟨rfl, (Below.refl _ _).alloc (Nat.le_refl _) _⟩
  · have e : fst N h n = n := by rw [hf]; omega
    rw [e]
    have hcc : ¬ ((N : Int) - h) < (n : Int) := by omega
    go_enter Try.func28, Try.ntmps28
    go_wp2
    go_ret
    exact ⟨rfl, (Below.refl _ _).alloc (Nat.le_refl _) _⟩

end Go.Proofs.Ytmgkomobamjneaa
