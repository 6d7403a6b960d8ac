/-
  Where an append of bytes lies; integers that came in; slices.ContainsFunc, slices.Clone, the reference's Right.
-/
import Derived.Test.YtellnnkgfjhmpaaF
import Derived.Laws.OwnMore
namespace Go.Proofs.Ytellnnkgfjhmpaa
open Go.RowKit

/-- 'append(s, b...)' onto a slice of the call's own, whatever b: what comes out owns its cells; the old row, or the block that is made now. -/
theorem run_append_bytes {ok : Nat → Prop} (w : World) (ty : TypeId) (base : Nat) (v : Value) (n : Nat) (xs : List Value) (hown : w.ownsRow base 5 1 v n xs) (vx : Value) (l : List UInt8) (hb : Bytes ok w vx l)
    (hlen : n + l.length ≤ 140737488355328) (hbase : base ≤ w.heap.size) :
    ∃ o' c' w', (Builtin.append_ #[31, 31] ty #[v, vx]).run Try.prog w = .ok (.slice o' (n + l.length) c') w' ∧ w'.ownsRow base 5 1 (.slice o' (n + l.length) c') (n + l.length) (xs ++ l.map byteVal) ∧
      w.grownBy w' v.ownBlock ∧ ((Value.slice o' (n + l.length) c').ownBlock = v.ownBlock ∨ (Value.slice o' (n + l.length) c').ownBlock = some w.heap.size) := by
  obtain ⟨i0, hi, hz0, hz1, hz2⟩ := info_parts Try.info5
  rcases hb with ⟨rfl, rfl⟩ | ⟨ad, cap, rfl, _, _, h4⟩
  · have hr := run_append_owned_none (P := Try.prog) (w := w) base 31 ty 5 i0 1 Try.underlying31 hi v n xs hown
    rcases hown.2 with ⟨rfl, rfl⟩ | ⟨g, cap, cur, rfl, _⟩
    · exact ⟨none, 0, w, hr, by simpa using hown, ⟨rfl, rfl, rfl, Nat.le_refl _, fun _ _ _ => rfl⟩, .inl rfl⟩
    · exact ⟨_, _, w, hr, by simpa using hown, ⟨rfl, rfl, rfl, Nat.le_refl _, fun _ _ _ => rfl⟩, .inl rfl⟩
  · obtain ⟨v', w', hr, h2, h3, _, h5⟩ := run_append_own_at (P := Try.prog) w base 31 ty 5 i0 _ 1 1 Try.underlying31 hi hz0 hz1 hz2 rfl (by decide) v n xs hown ad l.length cap (l.map byteVal) (by simp) (fun j u hj => by
      have hjl : j < l.length := by
        have := (List.getElem?_eq_some_iff.1 hj).1
        simpa using this
      obtain ⟨g1, _, g3, g4⟩ := h4 (by intro e; rw [e] at hjl; simp at hjl)
      obtain ⟨b, off, spot⟩ := ad
      simp only at g1 g3 g4
      subst g1
      rw [WideShapes.add_plain, g4 j hjl, ← hj]
      simp [List.getD, hjl]) (byteVal_cell l) (by unfold maxLen; omega) (by omega) hbase
    have h2' := h2
    rcases h2.2 with ⟨rfl, h0⟩ | ⟨g, cap', cur, rfl, _⟩
    · exact ⟨none, 0, w', by rw [h0]; exact hr, by rw [h0] at h2' ⊢; exact h2', h3, by rw [h0]; exact h5⟩
    · exact ⟨_, _, w', hr, h2', h3, h5⟩

theorem wpList_append_bytes_at {w : World} {ops : Array Oper} {rest : List Oper} {o : Oper} {a : Act} {Q : Exit → Act → World → Prop} {ok : Nat → Prop} (hgd : o.guard = none) (s x : Operand)
    (ho : o.op = .call { callee := .builtin .append, args := #[s, x], argTypes := #[31, 31] }) (base : Nat)
    (v : Value) (n : Nat) (xs : List Value) (hs : a.eval s = v) (hown : w.ownsRow base 5 1 v n xs) (vx : Value) (l : List UInt8) (hx : a.eval x = vx) (hb : Bytes ok w vx l)
    (hlen : n + l.length ≤ 140737488355328) (hbase : base ≤ w.heap.size)
    (h : ∀ o' c' w', w'.ownsRow base 5 1 (.slice o' (n + l.length) c') (n + l.length) (xs ++ l.map byteVal) → w.grownBy w' v.ownBlock → ((Value.slice o' (n + l.length) c').ownBlock = v.ownBlock ∨ (Value.slice o' (n + l.length) c').ownBlock = some w.heap.size) →
      wpList Try.prog ops Q rest (a.put o.dst (.slice o' (n + l.length) c')) w') : wpList Try.prog ops Q (o :: rest) a w := by
  refine wpList_plain hgd fun K hK => ?_
  obtain ⟨o', c', w', hr, h2, h3, h4⟩ := run_append_bytes w o.type base v n xs hown vx l hb hlen hbase
  unfold Oper.wp execOp
  simp only [ho, resolve, invoke, builtin, Sem.run_bind, Sem.run_pure, Result.andThen_ok, List.map_toArray, List.map_cons, List.map_nil, hs, hx, hr]
  exact hK _ _ (h o' c' w' h2 h3 h4)

theorem step_append_bytes {w : World} {ops : Array Oper} {o : Oper} {a : Act} {K : Act → World → Prop} {Q : Exit → Act → World → Prop} {E : Prop} {ok : Nat → Prop} (hgd : o.guard = none) (s x : Operand)
    (ho : o.op = .call { callee := .builtin .append, args := #[s, x], argTypes := #[31, 31] }) (base : Nat)
    (v : Value) (n : Nat) (xs : List Value) (hs : a.eval s = v) (hown : w.ownsRow base 5 1 v n xs) (vx : Value) (l : List UInt8) (hx : a.eval x = vx) (hb : Bytes ok w vx l)
    (hlen : n + l.length ≤ 140737488355328) (hbase : base ≤ w.heap.size)
    (h : ∀ o' c' w', w'.ownsRow base 5 1 (.slice o' (n + l.length) c') (n + l.length) (xs ++ l.map byteVal) → w.grownBy w' v.ownBlock → ((Value.slice o' (n + l.length) c').ownBlock = v.ownBlock ∨ (Value.slice o' (n + l.length) c').ownBlock = some w.heap.size) →
      K (a.put o.dst (.slice o' (n + l.length) c')) w') : if Region.wanted o (yielded ops a.tmps) = true then Oper.wp Try.prog o a w K Q else E := by
  have hw : Region.wanted o (yielded ops a.tmps) = true := by simp [Region.wanted, hgd]
  rw [if_pos hw]
  obtain ⟨o', c', w', hr, h2, h3, h4⟩ := run_append_bytes w o.type base v n xs hown vx l hb hlen hbase
  unfold Oper.wp execOp
  simp only [ho, resolve, invoke, builtin, Sem.run_bind, Sem.run_pure, Result.andThen_ok, List.map_toArray, List.map_cons, List.map_nil, hs, hx, hr]
  exact h o' c' w' h2 h3 h4

/-- The slice v reads as the integers l; its cells lie in a block in 'ok'. -/
def Ints (ok : Nat → Prop) (w : World) (v : Value) (l : List Int) : Prop :=
  (v = .slice none 0 0 ∧ l = []) ∨ ∃ a cap, v = .slice (some a) l.length cap ∧ l.length ≤ cap ∧ cap ≤ maxLen ∧
    (l ≠ [] → a.spot = none ∧ ok a.block ∧ a.block < w.heap.size ∧ ∀ i, i < l.length → w.cell? ⟨a.block, a.off + i, none⟩ = some (.int .i64 (l.getD i 0)))
theorem Ints.kept {ok ok' : Nat → Prop} {w w' : World} {v : Value} {l : List Int} (h : Ints ok w v l) (hf : Frm ok' w w') (hm : ∀ k, k < w.heap.size → ok k → ok' k) : Ints ok w' v l := by
  rcases h with h | ⟨a, cap, h1, h2, h3, h4⟩
  · exact .inl h
  · refine .inr ⟨a, cap, h1, h2, h3, fun hl => ?_⟩
    obtain ⟨g1, g2, g3, g4⟩ := h4 hl
    exact ⟨g1, g2, Nat.lt_of_lt_of_le g3 hf.size, fun i hi => (hf.cell (p := ⟨a.block, a.off + i, none⟩) g3 (hm _ g3 g2)).trans (g4 i hi)⟩
theorem Ints.mono {ok ok' : Nat → Prop} {w : World} {v : Value} {l : List Int} (h : Ints ok w v l) (hm : ∀ k, k < w.heap.size → ok k → ok' k) : Ints ok' w v l := by
  rcases h with h | ⟨a, cap, h1, h2, h3, h4⟩
  · exact .inl h
  · exact .inr ⟨a, cap, h1, h2, h3, fun hl => by obtain ⟨g1, g2, g3, g4⟩ := h4 hl; exact ⟨g1, hm _ g3 g2, g3, g4⟩⟩
theorem Ints.form {ok : Nat → Prop} {w : World} {v : Value} {l : List Int} (h : Ints ok w v l) :
    ∃ o cap, v = .slice o l.length cap ∧ l.length ≤ cap ∧ cap ≤ maxLen ∧ (l ≠ [] → ∃ b off, o = some ⟨b, off, none⟩ ∧ ok b ∧ b < w.heap.size ∧ ∀ i, i < l.length → w.cell? ⟨b, off + i, none⟩ = some (.int .i64 (l.getD i 0))) := by
  rcases h with ⟨rfl, rfl⟩ | ⟨a, cap, h1, h2, h3, h4⟩
  · exact ⟨none, 0, rfl, Nat.le_refl _, Nat.zero_le _, fun h => (h rfl).elim⟩
  · refine ⟨some a, cap, h1, h2, h3, fun hl => ?_⟩
    obtain ⟨g1, g2, g3, g4⟩ := h4 hl
    obtain ⟨b, off, spot⟩ := a
    simp only at g1
    subst g1
    exact ⟨b, off, rfl, g2, g3, g4⟩
theorem Ints.of_owns {ok : Nat → Prop} {w : World} {B n : Nat} {v : Value} {l : List Int} (h : w.ownsRow B 3 1 v n (l.map (Value.int .i64))) (hn : n = l.length) (hm : ∀ k, B ≤ k → k < w.heap.size → ok k) : Ints ok w v l := by
  subst hn
  obtain ⟨_, h2⟩ := h
  rcases h2 with ⟨rfl, h2⟩ | ⟨g, cap, cur, rfl, h3, h4, h5, h6, h7, h8⟩
  · exact .inl ⟨rfl, List.length_eq_zero_iff.1 h2⟩
  · refine .inr ⟨⟨g, 0, none⟩, cap, rfl, h5, h6, fun _ => ⟨rfl, hm g h3 (lt_of_block h4), lt_of_block h4, fun i hi => ?_⟩⟩
    have : cur[i]? = some (.int .i64 (l.getD i 0)) := by
      have e : (cur.toList.take (l.length * 1))[i]? = (l.map (Value.int .i64))[i]? := by rw [h8]
      rw [List.getElem?_take, if_pos (by omega)] at e
      simpa [hi, List.getD] using e
    simp [World.cell?, h4, this]

theorem Try.info3 : (Try.prog.info? 3).map (fun i => (i.zero, i.size, i.bytes)) = some (some (.int .i64 0), 1, 8) := by kernel_rfl
theorem eql_nil_ints (w : World) (a : Option Addr) (n c : Nat) : (binOp .eql 37 (.slice a n c) (.slice none 0 0)).run Try.prog w = .ok (.bool a.isNone) w := by
  simp only [binOp]
  simp [Op.equal, Op.maxDepth, Lib.run_equalIn_slice_nil w 9999 37 3 a n c 0 0 Try.underlying37]
theorem intVal_cell (l : List Int) : ∀ u ∈ l.map (Value.int .i64), u.oneCell' = true := by
  intro u hu
  obtain ⟨c, _, rfl⟩ := List.mem_map.1 hu
  rfl

set_option maxHeartbeats 400000 in
theorem cloneInts_any {ok : Nat → Prop} (v : Value) (l : List Int) (w : World) (h : Ints ok w v l) (hl : l.length ≤ 1000) :
    Calls Try.prog 28 #[v] w fun e w' => ∃ o' c', e = .returned (.slice o' l.length c') ∧ w'.ownsRow w.heap.size 3 1 (.slice o' l.length c') l.length (l.map (Value.int .i64)) ∧ Below w.heap.size w w' := by
  obtain ⟨i0, hi, hz0, hz1, hz2⟩ := info_parts Try.info3
  have hnil := eql_nil_ints w
  rcases h with ⟨rfl, rfl⟩ | ⟨a, cap, rfl, h2, h3, h4⟩
  · go_enter Try.func28, Try.ntmps28
    go_wp2
    go_ret
    exact ⟨_, _, rfl, World.ownsRow_nil _ _ _ _, Below.refl _ _⟩
  · have hc : ∀ (o : Obj) j u, (l.map (Value.int .i64))[j]? = some u → (w.alloc o).cell? (a.add j) = some u := by
      intro o j u hj
      have hjl : j < l.length := by
        have := (List.getElem?_eq_some_iff.1 hj).1
        simpa using this
      obtain ⟨g1, _, g3, g4⟩ := h4 (by intro e; rw [e] at hjl; simp at hjl)
      obtain ⟨b, off, spot⟩ := a
      simp only at g1 g3 g4
      subst g1
      rw [WideShapes.add_plain, World.cell?_alloc_lt _ _ _ g3, g4 j hjl, ← hj]
      simp [List.getD, hjl]
    have hlit : (w.alloc (.cells #[] 3)).ownsRow w.heap.size 3 1 (.slice (some ⟨w.heap.size, 0, none⟩) 0 0) 0 [] :=
      World.ownsRow_lit w #[] 0 (Nat.le_refl _) (by unfold maxLen; omega) rfl
    have hbc := intVal_cell l
    have hlen : (l.map (Value.int .i64)).length = l.length * 1 := by simp
    have H1 := Lib.hid hc
    have H2 := Lib.hid hbc
    have H3 := Lib.hid hlen
    clear hc hbc hlen h4
    go_enter Try.func28, Try.ntmps28
    go_wp2_with (at_builtin; refine wpList_append_own _ rfl _ _ 37 rfl w.heap.size 3 i0 (.int .i64 0) 1 8 Try.underlying37 hi hz0 hz1 hz2 rfl (by decide) _ 0 [] rfl hlit a l.length cap (l.map (Value.int .i64)) rfl H3.out (H1.out _) H2.out ?c3 ?c4 ?c5 ?_)
    case c3 => unfold maxLen; omega
    case c4 => omega
    case c5 => simp
    intro v' w1 hown hgrow _
    have hb : Below w.heap.size w w1 := ((Below.refl _ _).alloc (Nat.le_refl _) _).grown hgrow (by simp) (fun k e => by simp [Value.ownBlock] at e; omega)
    go_wp2
    go_ret
    obtain ⟨o', c', rfl⟩ := owns_form hown
    exact ⟨_, _, rfl, by simpa using hown, hb⟩

/-- Is a number below nothing? -/
def anyNeg (l : List Int) : Bool := l.any (fun z => decide (z < 0))
theorem anyNeg_take {l : List Int} {k : Nat} (h : k < l.length) : anyNeg (l.take (k + 1)) = (anyNeg (l.take k) || decide (l.getD k 0 < 0)) := by
  rw [List.take_add_one, List.getElem?_eq_getElem h]
  simp only [anyNeg, List.getD, List.getElem?_eq_getElem h, Option.toList_some, List.any_append, List.any_cons, List.any_nil, Bool.or_false, Option.getD_some]
theorem anyNeg_at {l : List Int} {k : Nat} (h : k < l.length) (hn : l.getD k 0 < 0) : anyNeg l = true := by
  simp only [anyNeg, List.any_eq_true, decide_eq_true_eq]
  refine ⟨_, ?_, hn⟩
  simp only [List.getD, List.getElem?_eq_getElem h, Option.getD_some]
  exact List.getElem_mem h

theorem neg_any (z : Int) (w : World) : Calls Try.prog 27 #[.int .i64 z] w fun e w' => e = .returned (.bool (decide (z < 0))) ∧ w = w' := by
  go_enter Try.func27, Try.ntmps27
  go_wp2
  go_ret
  exact ⟨rfl, rfl⟩

set_option maxHeartbeats 1000000 in
theorem index_any {ok : Nat → Prop} (v : Value) (l : List Int) (w : World) (h : Ints ok w v l) (hl : l.length ≤ 140737488355328) :
    Calls Try.prog 31 #[v, .func (.func 27) #[] #[]] w fun e w' => ∃ z : Int, e = .returned (.int .i64 z) ∧ decide (0 ≤ z) = anyNeg l ∧ w = w' := by
  obtain ⟨o, cap, rfl, hc1, hc2, h4⟩ := h.form
  go_enter Try.func31, Try.ntmps31
  go_wp2
  go_loopw [8] (fun i wr => ∃ k : Nat, i = .int .i64 k ∧ k ≤ l.length ∧ anyNeg (l.take k) = false ∧ w = wr) (fun i _ => l.length - (intOf i).toNat)
  case atStart => exact ⟨0, rfl, Nat.zero_le _, rfl, rfl⟩
  case round =>
    obtain ⟨k, rfl, hk, hT, rfl⟩ := hrel
    by_cases hlt : k < l.length
    · have hl0 : l ≠ [] := by intro e; rw [e] at hlt; simp at hlt
      obtain ⟨b, off, rfl, _, hbs, hc⟩ := h4 hl0
      have c0 := hc k hlt
      have hst := anyNeg_take hlt
      rw [hT, Bool.false_or] at hst
      have hat := anyNeg_at hlt
      generalize l.getD k 0 = z at *
      have HST := Lib.hid hst
      have HAT := Lib.hid hat
      clear hc h4 hst hat hT
      go_wp2_with fail
      refine (neg_any z w).mono ?_
      rintro e w1 ⟨rfl, rfl⟩
      by_cases hz : z < 0
      · go_wp2
        go_ret
        exact ⟨k, rfl, by rw [HAT.out hz]; simp, by first | rfl | trivial⟩
      · go_wp2
        go_roundw
        case rel => exact ⟨k + 1, by go_num, by omega, by rw [HST.out]; simpa using hz, trivial⟩
        case measure => simp [intOf]; omega
    · obtain rfl : k = l.length := by omega
      rw [List.take_length] at hT
      go_wp2
      go_ret
      exact ⟨-1, rfl, by rw [hT]; rfl, by first | rfl | trivial⟩

theorem contains_any {ok : Nat → Prop} (v : Value) (l : List Int) (w : World) (h : Ints ok w v l) (hl : l.length ≤ 140737488355328) :
    Calls Try.prog 26 #[v, .func (.func 27) #[] #[]] w fun e w' => e = .returned (.bool (anyNeg l)) ∧ w = w' := by
  go_enter Try.func26, Try.ntmps26
  go_wp2_with fail
  refine (index_any v l w h hl).mono ?_
  rintro e w1 ⟨z, rfl, hz, rfl⟩
  go_wp2
  go_ret
  exact ⟨by rw [← hz]; rfl, rfl⟩

set_option maxHeartbeats 1000000 in
theorem refRight_any {ok : Nat → Prop} (v : Value) (l : List Int) (en : Int) (w : World) (h : Ints ok w v l) (hl : l.length ≤ 140737488355328) :
    Calls Try.prog 19 #[v, .int .i64 en] w fun e w' => e = .returned (.bool (!anyNeg l && decide (0 ≤ en) && decide (en ≤ 2))) ∧ Below w.heap.size w w' := by
  obtain ⟨o, cap, rfl, hc1, hc2, h4⟩ := h.form
  go_enter Try.func19, Try.ntmps19
  go_wp2
  go_loopw [5] (fun i wr => ∃ k : Nat, i = .int .i64 k ∧ k ≤ l.length ∧ anyNeg (l.take k) = false ∧ Below w.heap.size w wr) (fun i _ => l.length - (intOf i).toNat)
  case atStart => exact ⟨0, rfl, Nat.zero_le _, rfl, Below.refl _ _⟩
  case round =>
    obtain ⟨k, rfl, hk, hT, hb⟩ := hrel
    by_cases hlt : k < l.length
    · have hl0 : l ≠ [] := by intro e; rw [e] at hlt; simp at hlt
      obtain ⟨b, off, rfl, _, hbs, hc⟩ := h4 hl0
      have c0 := (hb.cell (p := ⟨b, off + k, none⟩) hbs).trans (hc k hlt)
      have hst := anyNeg_take hlt
      rw [hT, Bool.false_or] at hst
      have hat := anyNeg_at hlt
      generalize l.getD k 0 = z at *
      have HST := Lib.hid hst
      have HAT := Lib.hid hat
      clear hc h4 hst hat hT
      by_cases hz : z < 0
      · go_wp2
        go_ret
        exact ⟨by rw [HAT.out hz]; rfl, hb⟩
      · go_wp2
        go_roundw
        case rel => exact ⟨k + 1, by go_num, by omega, by rw [HST.out]; simpa using hz, hb⟩
        case measure => simp [intOf]; omega
    · obtain rfl : k = l.length := by omega
      rw [List.take_length] at hT
      by_cases hen : 0 ≤ en
      · go_wp2
        go_ret
        exact ⟨by simp [hT, hen], hb⟩
      · have hd : decide (0 ≤ en) = false := by simpa using hen
        go_wp2
        go_ret
        exact ⟨by simp [hT, hd], hb⟩
end Go.Proofs.Ytellnnkgfjhmpaa
