/-
  A ring in memory; the contracts of slices.Clone, of the reference's Same, of Len, Head, Free, and of parts.
-/
import Derived.Test.YtmgkomobamjneaaA
import Derived.Test.YtmgkomobamjneaaP
import Derived.Deep.QuietTactic
import Derived.BigQuiet
import Derived.Outline
namespace Go.Proofs.Ytmgkomobamjneaa
open Go.RowKit

theorem Try.info5 : (Try.prog.info? 5).map (fun i => (i.zero, i.size, i.bytes)) = some (some (.int .u8 0), 1, 1) := by kernel_rfl

theorem eql_nil (w : World) (a : Option Addr) (n c : Nat) : (binOp .eql 22 (.slice a n c) (.slice none 0 0)).run Try.prog w = .ok (.bool a.isNone) w := by
  simp only [binOp]
  simp [Op.equal, Op.maxDepth, Lib.run_equalIn_slice_nil w 9999 22 5 a n c 0 0 Try.underlying22]

theorem byteVal_cell (l : List UInt8) : ∀ u ∈ l.map byteVal, u.oneCell' = true := by
  intro u hu
  obtain ⟨c, _, rfl⟩ := List.mem_map.1 hu
  rfl

theorem owns_form {w : World} {B : Nat} {e : TypeId} {z n : Nat} {v : Value} {xs : List Value} (h : w.ownsRow B e z v n xs) : ∃ o c, v = .slice o n c := by
  rcases h.2 with ⟨rfl, rfl⟩ | ⟨g, cap, cur, rfl, _⟩
  · exact ⟨_, _, rfl⟩
  · exact ⟨_, _, rfl⟩

set_option maxHeartbeats 400000 in
theorem clone_any {ok : Nat → Prop} (v : Value) (l : List UInt8) (w : World) (h : Bytes ok w v l) (hl : l.length ≤ 140737488355328) :
    Calls Try.prog 27 #[v] w fun e w' => ∃ o' c', e = .returned (.slice o' l.length c') ∧ w'.ownsRow w.heap.size 5 1 (.slice o' l.length c') l.length (l.map byteVal) ∧ Below w.heap.size w w' := by
  obtain ⟨i0, hi, hz0, hz1, hz2⟩ := info_parts Try.info5
  have hnil := eql_nil w
  rcases h with ⟨rfl, rfl⟩ | ⟨a, cap, rfl, h2, h3, h4⟩
  · go_enter Try.func27, Try.ntmps27
    go_wp2
    go_ret
    exact ⟨_, _, rfl, World.ownsRow_nil _ _ _ _, Below.refl _ _⟩
  · have hc : ∀ (o : Obj) j u, (l.map byteVal)[j]? = some u → (w.alloc o).cell? (a.add j) = some u := by
      intro o j u hj
      have hjl : j < l.length := by
        have := (List.getElem?_eq_some_iff.1 hj).1
        simpa using this
      obtain ⟨g1, _, g3, g4⟩ := h4 (by intro e; rw [e] at hjl; simp at hjl)
      obtain ⟨b, off, spot⟩ := a
      simp only at g1 g3 g4
      subst g1
      rw [WideShapes.add_plain, World.cell?_alloc_lt _ _ _ g3, g4 j hjl, ← hj]
      simp [List.getD, hjl]
    have hlit : (w.alloc (.cells #[] 5)).ownsRow w.heap.size 5 1 (.slice (some ⟨w.heap.size, 0, none⟩) 0 0) 0 [] :=
      World.ownsRow_lit w #[] 0 (Nat.le_refl _) (by unfold maxLen; omega) rfl
    have hbc := byteVal_cell l
    have hlen : (l.map byteVal).length = l.length * 1 := by simp
    have H1 := Lib.hid hc
    have H2 := Lib.hid hbc
    have H3 := Lib.hid hlen
    clear hc hbc hlen h4
    go_enter Try.func27, Try.ntmps27
    go_wp2_with (at_builtin; refine wpList_append_own _ rfl _ _ 22 rfl w.heap.size 5 i0 (.int .u8 0) 1 1 Try.underlying22 hi hz0 hz1 hz2 rfl (by decide) _ 0 [] rfl hlit a l.length cap (l.map byteVal) rfl H3.out (H1.out _) H2.out ?c3 ?c4 ?c5 ?_)
    case c3 => unfold maxLen; omega
    case c4 => omega
    case c5 => simp
    intro v' w1 hown hgrow _
    have hb : Below w.heap.size w w1 := ((Below.refl _ _).alloc (Nat.le_refl _) _).grown hgrow (by simp) (fun k e => by simp [Value.ownBlock] at e; omega)
    go_wp2
    go_ret
    obtain ⟨o', c', rfl⟩ := owns_form hown
    exact ⟨_, _, rfl, hown, hb⟩

theorem below_drewN {B : Nat} {a w : World} (h : Below B a w) (n : Nat) : Below B a (w.drewN n) := ⟨h.os, h.tape, h.output, h.size, h.block⟩
theorem frm_drewN {ok : Nat → Prop} {a w : World} (h : Frm ok a w) (n : Nat) : Frm ok a (w.drewN n) := ⟨h.os, h.tape, h.output, h.size, h.block⟩

set_option maxHeartbeats 1000000 in
theorem same_any {ok ok' : Nat → Prop} (v v' : Value) (l : List UInt8) (w : World) (h : Bytes ok w v l) (h' : Bytes ok' w v' l) (hl : l.length ≤ 140737488355328) :
    Calls Try.prog 14 #[v, v'] w fun e w' => e = .returned (.bool true) ∧ Below w.heap.size w w' := by
  obtain ⟨o, cap, rfl, _, _, h4⟩ := h.form
  obtain ⟨o', cap', rfl, _, _, h4'⟩ := h'.form
  go_enter Try.func14, Try.ntmps14
  go_wp2
  go_loopw [5] (fun i wr => ∃ k : Nat, i = .int .i64 k ∧ k ≤ l.length ∧ Below w.heap.size w wr) (fun i _ => l.length - (intOf i).toNat)
  case atStart => exact ⟨0, rfl, Nat.zero_le _, Below.refl _ _⟩
  case round =>
    obtain ⟨k, rfl, hk, hb⟩ := hrel
    by_cases hlt : k < l.length
    · have hl0 : l ≠ [] := by intro e; rw [e] at hlt; simp at hlt
      obtain ⟨b, off, rfl, _, hbs, hc⟩ := h4 hl0
      obtain ⟨b', off', rfl, _, hbs', hc'⟩ := h4' hl0
      have c0 : wr.cell? ⟨b, off + k, none⟩ = some (.int .u8 ((l.getD k 0).toNat : Int)) := (hb.cell (p := ⟨b, off + k, none⟩) hbs).trans (hc k hlt)
      have c1 : wr.cell? ⟨b', off' + k, none⟩ = some (.int .u8 ((l.getD k 0).toNat : Int)) := (hb.cell (p := ⟨b', off' + k, none⟩) hbs').trans (hc' k hlt)
      generalize (l.getD k 0) = c at *
      clear hc hc' h4 h4' h h' hl0
      have k0 : (0 : Int) ≤ (k : Int) := by omega
      have k1 : (k : Int) < (l.length : Int) := by omega
      go_wp2_with fail
      go_quiet (fail)
      go_wp2
      go_roundw
      case rel => exact ⟨k + 1, by go_num, by omega, below_drewN hb _⟩
      case measure => simp [intOf]; omega
    · go_wp2
      go_ret
      exact ⟨rfl, hb⟩

theorem row_cells {w : World} {b : Nat} {cs : Array Value} {t : TypeId} (h : w.heap[b]? = some (.cells cs t (0, 0))) : (∀ i, w.cell? ⟨b, i, none⟩ = cs[i]?) ∧ ∀ i, w.frozen? ⟨b, i, none⟩ = false :=
  ⟨fun i => by simp [World.cell?, h], fun i => by simp [World.frozen?, h]⟩
theorem row3 {w : World} {b : Nat} {v0 v1 v2 : Value} {t : TypeId} (h : w.heap[b]? = some (.cells #[v0, v1, v2] t (0, 0))) :
    w.cell? ⟨b, 0, none⟩ = some v0 ∧ w.cell? ⟨b, 1, none⟩ = some v1 ∧ w.cell? ⟨b, 2, none⟩ = some v2 ∧
    w.frozen? ⟨b, 0, none⟩ = false ∧ w.frozen? ⟨b, 1, none⟩ = false ∧ w.frozen? ⟨b, 2, none⟩ = false := by
  refine ⟨?_, ?_, ?_, ?_, ?_, ?_⟩ <;> first | simp [World.cell?, h] | simp [World.frozen?, h]
theorem frm_block {ok : Nat → Prop} {w w' : World} (h : Frm ok w w') {b : Nat} {o : Obj} (hb : w.heap[b]? = some o) (ho : ok b) : w'.heap[b]? = some o := (h.block b (lt_of_block hb) ho).trans hb

/-- A ring: its struct in block b, its array in block g; N places, the head, what it holds. -/
structure Rng (w : World) (b g N h : Nat) (l : List UInt8) : Prop where
  row : w.heap[b]? = some (.cells #[.slice (some ⟨g, 0, none⟩) N N, .int .i64 h, .int .i64 l.length] 57 (0, 0))
  ne : b ≠ g
  small : N ≤ 1000
  arr : ∃ C, Lies C N h l ∧ w.heap[g]? = some (.cells (C.map byteVal).toArray 5 (0, 0))
theorem Rng.kept {w w' : World} {b g N h : Nat} {l : List UInt8} {ok : Nat → Prop} (hr : Rng w b g N h l) (hf : Frm ok w w') (hb : ok b) (hg : ok g) : Rng w' b g N h l := by
  obtain ⟨C, h1, h2⟩ := hr.arr
  exact ⟨frm_block hf hr.row hb, hr.ne, hr.small, C, h1, frm_block hf h2 hg⟩
theorem Rng.bd {w : World} {b g N h : Nat} {l : List UInt8} (hr : Rng w b g N h l) : h < N ∧ l.length ≤ N ∧ N ≤ 1000 ∧ b < w.heap.size ∧ g < w.heap.size := by
  obtain ⟨C, h1, h2⟩ := hr.arr
  exact ⟨h1.head, h1.fits, hr.small, lt_of_block hr.row, lt_of_block h2⟩

theorem len_any (b g N h : Nat) (l : List UInt8) (w : World) (hr : Rng w b g N h l) : Calls Try.prog 11 #[.pointer (some ⟨b, 0, none⟩)] w fun e w' => e = .returned (.int .i64 l.length) ∧ w = w' := by
  obtain ⟨c0, c1, c2, _⟩ := row3 hr.row
  go_enter Try.func11, Try.ntmps11
  go_wp2
  go_ret
  exact ⟨rfl, rfl⟩
theorem head_any (b g N h : Nat) (l : List UInt8) (w : World) (hr : Rng w b g N h l) : Calls Try.prog 18 #[.pointer (some ⟨b, 0, none⟩)] w fun e w' => e = .returned (.int .i64 h) ∧ w = w' := by
  obtain ⟨c0, c1, c2, _⟩ := row3 hr.row
  go_enter Try.func18, Try.ntmps18
  go_wp2
  go_ret
  exact ⟨rfl, rfl⟩
theorem free_any (b g N h : Nat) (l : List UInt8) (w : World) (hr : Rng w b g N h l) : Calls Try.prog 12 #[.pointer (some ⟨b, 0, none⟩)] w fun e w' => e = .returned (.int .i64 ((N : Int) - l.length)) ∧ ∃ n, w' = w.drewN n := by
  obtain ⟨c0, c1, c2, _⟩ := row3 hr.row
  have hb := hr.bd
  go_enter Try.func12, Try.ntmps12
  go_wp2
  go_quiet (fail)
  go_wp2
  go_ret
  exact ⟨rfl, _, rfl⟩

theorem Rng.drewN {w : World} {b g N h : Nat} {l : List UInt8} (hr : Rng w b g N h l) (n : Nat) : Rng (w.drewN n) b g N h l := hr.kept (frm_drewN (Frm.refl (fun _ => True) _) n) trivial trivial

/-- Where the first part's value points. -/
def pof (p n : Nat) : Nat := if n = 0 then 0 else p
theorem pof_pos {p n : Nat} (h : 0 < n) : pof p n = p := by unfold pof; rw [if_neg (by omega)]

set_option maxHeartbeats 1000000 in
theorem parts_any (b g N h : Nat) (l : List UInt8) (fi ni : Int) (from_ n : Nat) (w : World) (hr : Rng w b g N h l) (hfi : fi = from_) (hni : ni = n) (h1 : from_ < 2 * N) (h2 : n ≤ N) :
    Calls Try.prog 25 #[.pointer (some ⟨b, 0, none⟩), .int .i64 fi, .int .i64 ni] w fun e w' => e = .returned (.tuple #[.slice (some ⟨g, pof (ix N from_) n, none⟩) (fst N (ix N from_) n) (fst N (ix N from_) n),
      .slice (some ⟨g, 0, none⟩) (n - fst N (ix N from_) n) (n - fst N (ix N from_) n)]) ∧ ∃ n, w' = w.drewN n := by
  subst hfi hni
  obtain ⟨c0, c1, c2, _⟩ := row3 hr.row
  obtain ⟨hh, _, hN, _⟩ := hr.bd
  have hp : (from_ : Int) % (N : Int) = ((ix N from_ : Nat) : Int) := by rw [← ix_mod h1]; rfl
  have hpl := ix_lt h1
  unfold fst pof
  generalize ix N from_ = p at *
  by_cases h0 : n = 0
  · subst h0
    have e : min 0 (N - p) = 0 := by omega
    rw [e, if_pos rfl]
    go_enter Try.func25, Try.ntmps25
    go_wp2
    go_quiet (fail)
    go_wp2
    go_ret2
    exact ⟨rfl, _, rfl⟩
  · rw [if_neg h0]
    by_cases hr : n ≤ N - p
    · have e : min n (N - p) = n := by omega
      rw [e, show n - n = 0 by omega]
      go_enter Try.func25, Try.ntmps25
      go_wp2
      go_quiet (fail)
      go_wp2
      rw [show p + n - p = n by omega]
      go_ret2
      exact ⟨rfl, _, rfl⟩
    · have e : min n (N - p) = N - p := by omega
      rw [e]
      go_enter Try.func25, Try.ntmps25
      go_wp2
      go_quiet (fail)
      go_wp2
      all_goals
        rw [show p + (N - p) - p = N - p by omega]
        go_ret2
        first | exact ⟨rfl, _, rfl⟩ | (exfalso; omega)
end Go.Proofs.Ytmgkomobamjneaa
