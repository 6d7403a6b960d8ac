/-
  The contracts of the reference's Great, Fields and Part.
-/
import Derived.Test.YtmjnjjjhdcecbaaDoorH
import Derived.Laws.StructEq
namespace Go.Proofs.YtmjnjjjhdcecbaaDoor
open Go.RowKit

/-- How long fields are, together. -/
def tot : List Fd → Nat
  | [] => 0
  | f :: t => f.1.size + f.2.size + 1 + tot t
theorem tot_append (l m : List Fd) : tot (l ++ m) = tot l + tot m := by
  induction l with
  | nil => simp [tot]
  | cons f t ih => simp only [List.cons_append, tot, ih]; omega
theorem take_more {l : List Fd} {k : Nat} (h : k < l.length) : l.take (k + 1) = l.take k ++ [l.getD k nofd] := by
  rw [List.take_succ_eq_append_getElem h]
  simp [List.getD, h]
theorem tot_take {l : List Fd} {k : Nat} (h : k < l.length) : tot (l.take (k + 1)) = tot (l.take k) + (l.getD k nofd).1.size + (l.getD k nofd).2.size + 1 := by
  rw [take_more h, tot_append]
  simp only [tot]
  omega
theorem tot_take_le (l : List Fd) (k : Nat) : tot (l.take k) ≤ tot l := by
  conv => rhs; rw [← List.take_append_drop k l, tot_append]
  omega
theorem tot_len (l : List Fd) : l.length ≤ tot l := by
  induction l with
  | nil => simp [tot]
  | cons f t ih => simp only [List.length_cons, tot]; omega
theorem getD_mem {l : List Fd} {i : Nat} (h : i < l.length) : l.getD i nofd ∈ l := by
  simp only [List.getD, List.getElem?_eq_getElem h, Option.getD_some]
  exact List.getElem_mem h
theorem tot_mem {l : List Fd} {f : Fd} (h : f ∈ l) : f.1.size + f.2.size + 1 ≤ tot l := by
  induction l with
  | nil => cases h
  | cons g t ih =>
    simp only [tot]
    rcases List.mem_cons.1 h with rfl | h
    · omega
    · have := ih h; omega

theorem below_drewN {B : Nat} {a w : World} (h : Below B a w) (n : Nat) : Below B a (w.drewN n) := ⟨h.os, h.tape, h.output, h.size, h.block⟩

set_option maxHeartbeats 1000000 in
theorem great_any {ok : Nat → Prop} (v : Value) (L : List Fd) (w : World) (h : Flds ok w v L) (hl : ∀ f ∈ L, f.1.size ≤ 140737488355328 ∧ f.2.size ≤ 140737488355328) :
    Calls Tryd.prog 12 #[v] w fun e w' => ∃ B, e = .returned (.bool B) ∧ (B = false → tot L ≤ 2000) ∧ Below w.heap.size w w' := by
  obtain ⟨o, cap, rfl, hc1, ⟨hc2, _⟩, h4⟩ := h
  unfold maxLen at hc2
  go_enter Tryd.func12, Tryd.ntmps12
  go_wp2
  go_loopw [3, 4] (fun n i wr => ∃ k : Nat, i = .int .i64 k ∧ n = .int .i64 (tot (L.take k)) ∧ k ≤ L.length ∧ tot (L.take k) ≤ 281474976800000 ∧ Below w.heap.size w wr) (fun _ i _ => L.length - (intOf i).toNat)
  case atStart => exact ⟨0, rfl, by simp [tot], Nat.zero_le _, by simp [tot], Below.refl _ _⟩
  case round =>
    obtain ⟨k, rfl, rfl, hk, hT, hb⟩ := hrel
    by_cases hlt : k < L.length
    · have hl0 : L ≠ [] := by intro e; rw [e] at hlt; simp at hlt
      obtain ⟨b, off, rfl, _, hbs, hc⟩ := h4 hl0
      obtain ⟨v0, v1⟩ := hc k hlt
      have c0 := (hb.cell (p := ⟨b, off + k * 2, none⟩) hbs).trans v0
      have c1 := (hb.cell (p := ⟨b, off + k * 2 + 1, none⟩) hbs).trans v1
      have hst := tot_take hlt
      have HST := Lib.hid hst
      obtain ⟨p0, p1⟩ := hl _ (getD_mem hlt)
      have htl := tot_take_le L k
      generalize (L.getD k nofd).1 = m0 at *
      generalize (L.getD k nofd).2 = m1 at *
      clear h4 hc v0 v1 hst
      generalize htt : tot (L.take k) = T at *
      by_cases h6 : T ≤ 2000
      · go_wp2_with fail
        go_quiet (fail)
        go_wp2
        go_roundw
        case rel => exact ⟨k + 1, by go_num, by rw [HST.out]; congr 1, by omega, by rw [HST.out]; omega, below_drewN hb _⟩
        case measure => simp [intOf]; omega
      · go_wp2
        go_ret
        exact ⟨_, rfl, fun h => by simp at h <;> omega, hb⟩
    · obtain rfl : k = L.length := by omega
      rw [List.take_length] at hT ⊢
      clear h4
      generalize htt : tot L = T at *
      by_cases h6 : T ≤ 2000
      · go_wp2
        go_ret
        exact ⟨_, rfl, fun _ => by omega, hb⟩
      · go_wp2
        go_ret
        exact ⟨_, rfl, fun h => by simp at h <;> omega, hb⟩

theorem fields42 : Tryd.prog.fieldsOf 42 = #[{ name := "Name", type := 9, offset := 0, embedded := false, tag := "", pkgPath := "", byteOffset := 0 },
        { name := "Value", type := 9, offset := 1, embedded := false, tag := "", pkgPath := "", byteOffset := 16 }] := by kernel_rfl
theorem neq_same (a b : ByteArray) (w : World) : (binOp .neq 42 (.agg #[.string a, .string b]) (.agg #[.string a, .string b])).run Tryd.prog w = .ok (.bool false) w := by
  rw [run_neq_struct, run_equalIn_agg, fields42]
  · simp [go_sem, run_equalIn_string _ _ _ _ _ Tryd.underlying9]
  · kernel_rfl
  · kernel_rfl
theorem guard_free (a b c d : ByteArray) (x y : Operand) (w : World) : (eqGuard .neq 42 x y (.agg #[.string a, .string b]) (.agg #[.string c, .string d])).run Tryd.prog w = .ok () w := run_eqGuard_agg w .neq 42 x y _ _ (by kernel_rfl)

set_option maxHeartbeats 1000000 in
theorem fields_same {ok ok' : Nat → Prop} (v v' : Value) (L : List Fd) (w : World) (h : Flds ok w v L) (h' : Flds ok' w v' L) :
    Calls Tryd.prog 13 #[v, v'] w fun e w' => e = .returned (.bool true) ∧ Below w.heap.size w w' := by
  obtain ⟨o, cap, rfl, hc1, ⟨hc2, _⟩, h4⟩ := h
  obtain ⟨o', cap', rfl, hd1, ⟨hd2, _⟩, h4'⟩ := h'
  unfold maxLen at hc2 hd2
  go_enter Tryd.func13, Tryd.ntmps13
  go_wp2
  go_loopw [5] (fun i wr => ∃ k : Nat, i = .int .i64 k ∧ k ≤ L.length ∧ Below w.heap.size w wr) (fun i _ => L.length - (intOf i).toNat)
  case atStart => exact ⟨0, rfl, Nat.zero_le _, Below.refl _ _⟩
  case round =>
    obtain ⟨k, rfl, hk, hb⟩ := hrel
    by_cases hlt : k < L.length
    · have hl0 : L ≠ [] := by intro e; rw [e] at hlt; simp at hlt
      obtain ⟨b, off, rfl, _, hbs, hc⟩ := h4 hl0
      obtain ⟨b', off', rfl, _, hbs', hc'⟩ := h4' hl0
      have c0 := (hb.cell (p := ⟨b, off + k * 2, none⟩) hbs).trans (hc k hlt).1
      have c1 := (hb.cell (p := ⟨b, off + k * 2 + 1, none⟩) hbs).trans (hc k hlt).2
      have d0 := (hb.cell (p := ⟨b', off' + k * 2, none⟩) hbs').trans (hc' k hlt).1
      have d1 := (hb.cell (p := ⟨b', off' + k * 2 + 1, none⟩) hbs').trans (hc' k hlt).2
      generalize (L.getD k nofd).1 = m0 at *
      generalize (L.getD k nofd).2 = m1 at *
      clear h4 h4' hc hc'
      have hne := neq_same m0 m1
      have hgu := guard_free m0 m1 m0 m1
      go_wp2_with fail
      go_quiet (fail)
      go_wp2
      go_roundw
      case rel => exact ⟨k + 1, by go_num, by omega, below_drewN hb _⟩
      case measure => simp [intOf]; omega
    · obtain rfl : k = L.length := by omega
      go_wp2
      go_ret
      exact ⟨rfl, hb⟩

/-- The fields that are forbidden (b true), or are not. -/
def pick (b : Bool) (l : List Fd) : List Fd := l.filter fun f => forb f.1 == b
theorem pick_take {b : Bool} {l : List Fd} {k : Nat} (h : k < l.length) : pick b (l.take (k + 1)) = if forb (l.getD k nofd).1 = b then pick b (l.take k) ++ [l.getD k nofd] else pick b (l.take k) := by
  rw [take_more h]
  unfold pick
  rw [List.filter_append]
  generalize l.getD k nofd = x
  by_cases hq : forb x.1 = b
  · rw [if_pos hq]; simp [List.filter, hq]
  · have hq' : (forb x.1 == b) = false := by simpa using hq
    rw [if_neg hq]; simp [List.filter, hq']
theorem pick_len (b : Bool) (l : List Fd) : (pick b l).length ≤ l.length := List.length_filter_le _ _

set_option maxHeartbeats 2000000 in
theorem part_any {ok : Nat → Prop} (v : Value) (B : Bool) (L : List Fd) (w : World) (h : Flds ok w v L) (hl : ∀ f ∈ L, f.1.size ≤ 140737488351232) (hL : L.length ≤ 100000) :
    Calls Tryd.prog 17 #[v, .bool B] w fun e w' => ∃ o c, e = .returned (.slice o (pick B L).length c) ∧ w'.ownsRow w.heap.size 42 2 (.slice o (pick B L).length c) (pick B L).length (flat (pick B L)) ∧ Below w.heap.size w w' := by
  obtain ⟨o, cap, rfl, hc1, ⟨hc2, _⟩, h4⟩ := h
  unfold maxLen at hc2
  have H4 := Lib.hid h4
  have HL := Lib.hid hl
  clear h4 hl
  go_enter Tryd.func17, Tryd.ntmps17
  go_wp2
  go_loopw [5, 6] (fun out i wr => ∃ (k : Nat) (oo : Option Addr) (cc : Nat), i = .int .i64 k ∧ out = .slice oo (pick B (L.take k)).length cc ∧ k ≤ L.length ∧
    Hid (wr.ownsRow w.heap.size 42 2 (.slice oo (pick B (L.take k)).length cc) (pick B (L.take k)).length (flat (pick B (L.take k)))) ∧ Below w.heap.size w wr) (fun _ i _ => L.length - (intOf i).toNat)
  case atStart => exact ⟨0, none, 0, rfl, rfl, Nat.zero_le _, Lib.hid ⟨rfl, .inl ⟨rfl, rfl⟩⟩, Below.refl _ _⟩
  case round =>
    obtain ⟨k, oo, cc, rfl, rfl, hk, HO, hb⟩ := hrel
    have hsz := hb.size
    by_cases hlt : k < L.length
    · have hl0 : L ≠ [] := by intro e; rw [e] at hlt; simp at hlt
      obtain ⟨b, off, rfl, _, hbs, hc⟩ := H4.out hl0
      have c0 := (hb.cell (p := ⟨b, off + k * 2, none⟩) hbs).trans (hc k hlt).1
      have c1 := (hb.cell (p := ⟨b, off + k * 2 + 1, none⟩) hbs).trans (hc k hlt).2
      have p0 := HL.out _ (getD_mem hlt)
      have hpt := pick_take (b := B) hlt
      have hpl := pick_len B (L.take k)
      rw [List.length_take] at hpl
      have hfd : L.getD k nofd = ((L.getD k nofd).1, (L.getD k nofd).2) := rfl
      rw [hfd] at hpt
      generalize (L.getD k nofd).1 = m0 at *
      generalize (L.getD k nofd).2 = m1 at *
      generalize pick B (L.take k) = M at *
      clear hc hfd
      have hFo := rforbidden_any m0 wr p0
      have HPT := Lib.hid hpt
      clear hpt
      generalize forb m0 = F at *
      go_wp2_with fail
      refine hFo.mono ?_
      rintro e w1 ⟨rfl, hb1⟩
      have hb2 := hb.trans (hb1.mono hsz)
      have d0 := (hb1.cell (p := ⟨b, off + k * 2, none⟩) (by show b < _; omega)).trans c0
      have d1 := (hb1.cell (p := ⟨b, off + k * 2 + 1, none⟩) (by show b < _; omega)).trans c1
      have hO1 := owns_frm (ok := fun q => q < wr.heap.size) HO.out (Frm.of_below hb1 (fun q _ hq => hq)) (fun q hq => (World.ownsRow.lt HO.out q hq).2)
      have hs1 := hb1.size
      by_cases hq : F = B
      · subst hq
        have hpt := HPT.out
        rw [if_pos rfl] at hpt
        have HPT' := Lib.hid hpt
        have HO1 := Lib.hid hO1
        clear hpt HPT HO hO1 c0 c1
        have hff : (F == F) = true := by simp
        go_wp2_with (at_builtin; refine wpList_append_flds rfl _ _ rfl w.heap.size _ M.length (flat M) rfl (owns_frm (ok := fun _ => True) HO1.out ((Frm.refl _ _).alloc _) (fun _ _ => trivial)) _ [(m0, m1)] rfl (Flds.one m0 m1 (World.alloc_heap_new _ _)) ?c1 ?c2 ?_)
        case c1 => simp; omega
        case c2 => simp; omega
        intro o' c' w2 hown hgrow hat
        have hb3 : Below w.heap.size w w2 := (hb2.alloc (by omega) _).grown hgrow (by simp; omega) (fun q hq => (World.ownsRow.lt HO1.out q hq).1)
        have HO2 := Lib.hid hown
        clear hown hgrow hat
        go_wp2
        go_roundw
        case rel => exact ⟨k + 1, o', c', by go_num, by rw [HPT'.out, List.length_append]; rfl, by omega, Lib.hid (by rw [HPT'.out, flat_append, List.length_append]; exact HO2.out), hb3⟩
        case measure => simp [intOf]; omega
      · have hpt := HPT.out
        rw [if_neg hq] at hpt
        have HPT' := Lib.hid hpt
        have HO1 := Lib.hid hO1
        clear hpt HPT HO hO1 c0 c1
        have hff : (F == B) = false := by simpa using hq
        go_wp2
        go_roundw
        case rel => exact ⟨k + 1, oo, cc, by go_num, by rw [HPT'.out], by omega, Lib.hid (by rw [HPT'.out]; exact HO1.out), hb2⟩
        case measure => simp [intOf]; omega
    · obtain rfl : k = L.length := by omega
      rw [List.take_length] at HO
      rw [List.take_length]
      go_wp2
      go_ret
      exact ⟨_, _, rfl, HO.out, hb⟩
end Go.Proofs.YtmjnjjjhdcecbaaDoor
