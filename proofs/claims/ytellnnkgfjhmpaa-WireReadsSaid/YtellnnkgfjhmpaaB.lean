/-
  The contracts of bytes.Clone, of the reference's Same, and of wire's small functions.
-/
import Derived.Test.YtellnnkgfjhmpaaA
import Derived.Deep.QuietTactic
import Derived.BigQuiet
namespace Go.Proofs.Ytellnnkgfjhmpaa
open Go.RowKit

theorem Try.info5 : (Try.prog.info? 5).map (fun i => (i.zero, i.size, i.bytes)) = some (some (.int .u8 0), 1, 1) := by kernel_rfl

theorem eql_nil (w : World) (a : Option Addr) (n c : Nat) : (binOp .eql 31 (.slice a n c) (.slice none 0 0)).run Try.prog w = .ok (.bool a.isNone) w := by
  simp only [binOp]
  simp [Op.equal, Op.maxDepth, Lib.run_equalIn_slice_nil w 9999 31 5 a n c 0 0 Try.underlying31]

theorem byteVal_cell (l : List UInt8) : ∀ u ∈ l.map byteVal, u.oneCell' = true := by
  intro u hu
  obtain ⟨c, _, rfl⟩ := List.mem_map.1 hu
  rfl

theorem owns_form {w : World} {B : Nat} {e : TypeId} {z n : Nat} {v : Value} {xs : List Value} (h : w.ownsRow B e z v n xs) : ∃ o c, v = .slice o n c := by
  rcases h.2 with ⟨rfl, rfl⟩ | ⟨g, cap, cur, rfl, _⟩
  · exact ⟨_, _, rfl⟩
  · exact ⟨_, _, rfl⟩

set_option maxHeartbeats 400000 in
theorem clone_any {ok : Nat → Prop} (v : Value) (l : List UInt8) (w : World) (h : Bytes ok w v l) (hl : l.length ≤ 140737488355328) :
    Calls Try.prog 25 #[v] w fun e w' => ∃ o' c', e = .returned (.slice o' l.length c') ∧ w'.ownsRow w.heap.size 5 1 (.slice o' l.length c') l.length (l.map byteVal) ∧ Below w.heap.size w w' := by
  obtain ⟨i0, hi, hz0, hz1, hz2⟩ := info_parts Try.info5
  have hnil := eql_nil w
  rcases h with ⟨rfl, rfl⟩ | ⟨a, cap, rfl, h2, h3, h4⟩
  · go_enter Try.func25, Try.ntmps25
    go_wp2
    go_ret
    exact ⟨_, _, rfl, World.ownsRow_nil _ _ _ _, Below.refl _ _⟩
  · have hc : ∀ (o : Obj) j u, (l.map byteVal)[j]? = some u → (w.alloc o).cell? (a.add j) = some u := by
      intro o j u hj
      have hjl : j < l.length := by
        have := (List.getElem?_eq_some_iff.1 hj).1
        simpa using this
      obtain ⟨g1, _, g3, g4⟩ := h4 (by intro e; rw [e] at hjl; simp at hjl)
      obtain ⟨b, off, spot⟩ := a
      simp only at g1 g3 g4
      subst g1
      rw [WideShapes.add_plain, World.cell?_alloc_lt _ _ _ g3, g4 j hjl, ← hj]
      simp [List.getD, hjl]
    have hlit : (w.alloc (.cells #[] 5)).ownsRow w.heap.size 5 1 (.slice (some ⟨w.heap.size, 0, none⟩) 0 0) 0 [] :=
      World.ownsRow_lit w #[] 0 (Nat.le_refl _) (by unfold maxLen; omega) rfl
    have hbc := byteVal_cell l
    have hlen : (l.map byteVal).length = l.length * 1 := by simp
    have H1 := Lib.hid hc
    have H2 := Lib.hid hbc
    have H3 := Lib.hid hlen
    clear hc hbc hlen h4
    go_enter Try.func25, Try.ntmps25
    go_wp2_with (at_builtin; refine wpList_append_own _ rfl _ _ 31 rfl w.heap.size 5 i0 (.int .u8 0) 1 1 Try.underlying31 hi hz0 hz1 hz2 rfl (by decide) _ 0 [] rfl hlit a l.length cap (l.map byteVal) rfl H3.out (H1.out _) H2.out ?c3 ?c4 ?c5 ?_)
    case c3 => unfold maxLen; omega
    case c4 => omega
    case c5 => simp
    intro v' w1 hown hgrow _
    have hb : Below w.heap.size w w1 := ((Below.refl _ _).alloc (Nat.le_refl _) _).grown hgrow (by simp) (fun k e => by simp [Value.ownBlock] at e; omega)
    go_wp2
    go_ret
    obtain ⟨o', c', rfl⟩ := owns_form hown
    exact ⟨_, _, rfl, hown, hb⟩

theorem below_drewN {B : Nat} {a w : World} (h : Below B a w) (n : Nat) : Below B a (w.drewN n) := ⟨h.os, h.tape, h.output, h.size, h.block⟩

set_option maxHeartbeats 1000000 in
theorem same_any {ok ok' : Nat → Prop} (v v' : Value) (l : List UInt8) (w : World) (h : Bytes ok w v l) (h' : Bytes ok' w v' l) (hl : l.length ≤ 140737488355328) :
    Calls Try.prog 12 #[v, v'] w fun e w' => e = .returned (.bool true) ∧ Below w.heap.size w w' := by
  obtain ⟨o, cap, rfl, _, _, h4⟩ := h.form
  obtain ⟨o', cap', rfl, _, _, h4'⟩ := h'.form
  go_enter Try.func12, Try.ntmps12
  go_wp2
  go_loopw [5] (fun i wr => ∃ k : Nat, i = .int .i64 k ∧ k ≤ l.length ∧ Below w.heap.size w wr) (fun i _ => l.length - (intOf i).toNat)
  case atStart => exact ⟨0, rfl, Nat.zero_le _, Below.refl _ _⟩
  case round =>
    obtain ⟨k, rfl, hk, hb⟩ := hrel
    by_cases hlt : k < l.length
    · have hl0 : l ≠ [] := by intro e; rw [e] at hlt; simp at hlt
      obtain ⟨b, off, rfl, _, hbs, hc⟩ := h4 hl0
      obtain ⟨b', off', rfl, _, hbs', hc'⟩ := h4' hl0
      have c0 : wr.cell? ⟨b, off + k, none⟩ = some (.int .u8 ((l.getD k 0).toNat : Int)) := (hb.cell (p := ⟨b, off + k, none⟩) hbs).trans (hc k hlt)
      have c1 : wr.cell? ⟨b', off' + k, none⟩ = some (.int .u8 ((l.getD k 0).toNat : Int)) := (hb.cell (p := ⟨b', off' + k, none⟩) hbs').trans (hc' k hlt)
      generalize (l.getD k 0) = c at *
      clear hc hc' h4 h4' h h' hl0
      have k0 : (0 : Int) ≤ (k : Int) := by omega
      have k1 : (k : Int) < (l.length : Int) := by omega
      go_wp2_with fail
      go_quiet (fail)
      go_wp2
      go_roundw
      case rel => exact ⟨k + 1, by go_num, by omega, below_drewN hb _⟩
      case measure => simp [intOf]; omega
    · go_wp2
      go_ret
      exact ⟨rfl, hb⟩

theorem right_yes (n : Int) (w : World) (h0 : 0 ≤ n) (h1 : n ≤ 2) : Calls Try.prog 24 #[.int .i64 n] w fun e w' => e = .returned (.bool true) ∧ w = w' := by
  go_enter Try.func24, Try.ntmps24
  go_wp2
  go_ret
  exact ⟨rfl, rfl⟩
theorem right_no (n : Int) (w : World) (h : n < 0 ∨ 2 < n) : Calls Try.prog 24 #[.int .i64 n] w fun e w' => e = .returned (.bool false) ∧ w = w' := by
  rcases h with h | h
  · go_enter Try.func24, Try.ntmps24
    go_wp2
    go_ret
    exact ⟨rfl, rfl⟩
  · have hd : decide (n ≤ 2) = false := by simp; omega
    go_enter Try.func24, Try.ntmps24
    go_wp2
    go_ret
    exact ⟨rfl, rfl⟩
end Go.Proofs.Ytellnnkgfjhmpaa
