/-
  wakes; the reference's Great; Source.Reads.
-/
import Derived.Test.YtellnnkgfjhmpaaD
import Derived.Lib.SlBytesConst
namespace Go.Proofs.Ytellnnkgfjhmpaa
open Go.RowKit

theorem conv_bytes {ok : Nat → Prop} {w : World} {o : Option Addr} {n c : Nat} {l : List UInt8} (h : Bytes ok w (.slice o n c) l) (hn : l.length = n) (h0 : l ≠ []) : (convert 31 9 (.slice o n c)).run Try.prog w = .ok (.string ⟨l.toArray⟩) w := by
  subst hn
  obtain ⟨o', c', e, _, _, h4⟩ := h.form
  obtain ⟨b, off, rfl, _, _, hc⟩ := h4 h0
  cases e
  exact run_convert_bytes_back w 31 9 5 ⟨b, off, none⟩ c l Try.underlying31 Try.underlying5 Try.underlying9 (fun j hj => by
    rw [WideShapes.add_plain, hc j hj]
    simp [byteVal, List.getD, hj])

theorem reads_any (b : Nat) (M : Nat → Prop) (g : Nat) (L : List (List UInt8)) (beg : Bool) (en rd : Int) (sh : Bool) (w : World) (hs : Src w b M g L beg en rd sh) :
    Calls Try.prog 13 #[.pointer (some ⟨b, 0, none⟩)] w fun e w' => e = .returned (.int .i64 rd) ∧ w = w' := by
  have hc : w.cell? ⟨b, 3, none⟩ = some (.int .i64 rd) := by
    obtain ⟨o, c, h1⟩ := hs.cells
    simp [World.cell?, h1]
  go_enter Try.func13, Try.ntmps13
  go_wp2
  go_ret
  exact ⟨rfl, rfl⟩

/-- How many bytes and pieces. -/
def tot (L : List (List UInt8)) : Nat := (L.map (fun p => p.length + 1)).sum
theorem tot_take {L : List (List UInt8)} {k : Nat} (h : k < L.length) : tot (L.take (k + 1)) = tot (L.take k) + ((L.getD k []).length + 1) := by
  rw [List.take_add_one, List.getElem?_eq_getElem h]
  simp only [tot, List.getD, List.getElem?_eq_getElem h, Option.toList_some, List.map_append, List.sum_append, List.map_cons, List.map_nil, List.sum_cons, List.sum_nil, Option.getD_some, Nat.add_zero]
theorem tot_take_le (L : List (List UInt8)) (k : Nat) : tot (L.take k) ≤ tot L := by
  have h : tot L = tot (L.take k) + tot (L.drop k) := by
    conv => lhs; rw [← List.take_append_drop k L]
    simp only [tot, List.map_append, List.sum_append]
  omega
theorem tot_len (L : List (List UInt8)) : L.length ≤ tot L := by
  induction L with
  | nil => simp [tot]
  | cons p t ih => simp [tot] at ih ⊢; omega
theorem tot_mem {L : List (List UInt8)} {p : List UInt8} (h : p ∈ L) : p.length < tot L := by
  induction L with
  | nil => simp at h
  | cons q t ih =>
    rcases List.mem_cons.1 h with rfl | h
    · simp [tot]; omega
    · have := ih h
      simp [tot] at this ⊢; omega

set_option maxHeartbeats 1000000 in
theorem great_any {ok : Nat → Prop} (v : Value) (L : List (List UInt8)) (w : World) (h : Pieces ok w v L) (hl : ∀ p ∈ L, p.length ≤ 140737488355328) :
    Calls Try.prog 9 #[v] w fun e w' => ∃ B, e = .returned (.bool B) ∧ (B = false → tot L ≤ 600) ∧ Below w.heap.size w w' := by
  obtain ⟨o, cap, rfl, hc1, hc2, h4⟩ := h
  unfold maxLen at hc2
  go_enter Try.func9, Try.ntmps9
  go_wp2
  go_loopw [3, 4] (fun n i wr => ∃ k : Nat, i = .int .i64 k ∧ n = .int .i64 (tot (L.take k)) ∧ k ≤ L.length ∧ tot (L.take k) ≤ 140737488356000 ∧ Below w.heap.size w wr) (fun _ i _ => L.length - (intOf i).toNat)
  case atStart => exact ⟨0, rfl, by simp [tot], Nat.zero_le _, by simp [tot], Below.refl _ _⟩
  case round =>
    obtain ⟨k, rfl, rfl, hk, hT, hb⟩ := hrel
    by_cases hlt : k < L.length
    · have hl0 : L ≠ [] := by intro e; rw [e] at hlt; simp at hlt
      obtain ⟨b, off, rfl, _, hbs, hc⟩ := h4 hl0
      obtain ⟨vi, hvi, hby⟩ := hc k hlt
      have hvi' : wr.cell? ⟨b, off + k, none⟩ = some vi := (hb.cell (p := ⟨b, off + k, none⟩) hbs).trans hvi
      obtain ⟨ov, cv, rfl, q1, q2, _⟩ := hby.form
      unfold maxLen at q2
      have hst := tot_take hlt
      have HST := Lib.hid hst
      have hpm := hl _ (getD_mem hlt)
      have htl := tot_take_le L k
      generalize hpl : (L.getD k []).length = m at *
      clear h4 hc hvi hby hst
      generalize htt : tot (L.take k) = T at *
      by_cases h6 : T ≤ 600
      · go_wp2
        go_roundw
        case rel => exact ⟨k + 1, by go_num, by rw [HST.out]; congr 1, by omega, by rw [HST.out]; omega, hb⟩
        case measure => simp [intOf]; omega
      · go_wp2
        go_ret
        exact ⟨_, rfl, fun h => by simp at h <;> omega, hb⟩
    · obtain rfl : k = L.length := by omega
      rw [List.take_length] at hT ⊢
      clear h4
      generalize htt : tot L = T at *
      by_cases h6 : T ≤ 600
      · go_wp2
        go_ret
        exact ⟨_, rfl, fun _ => by omega, hb⟩
      · go_wp2
        go_ret
        exact ⟨_, rfl, fun h => by simp at h <;> omega, hb⟩

theorem bytes_one {ok : Nat → Prop} {w : World} {b : Nat} {l : List UInt8} {cs : Array Value} {t : TypeId} {fr : Nat × Nat} {cap : Nat} (hb : w.heap[b]? = some (.cells cs t fr)) (hc : cs = (l.map byteVal).toArray) (ho : ok b) (hcap : l.length ≤ cap) (hcap2 : cap ≤ maxLen) :
    Bytes ok w (.slice (some ⟨b, 0, none⟩) l.length cap) l := by
  refine .inr ⟨_, _, rfl, hcap, hcap2, fun _ => ⟨rfl, ho, lt_of_block hb, fun i hi => ?_⟩⟩
  subst hc
  simp [World.cell?, hb, List.getD, hi]

theorem Src.lt {w : World} {b g : Nat} {M : Nat → Prop} {L : List (List UInt8)} {beg : Bool} {en rd : Int} {sh : Bool} (h : Src w b M g L beg en rd sh) (hne : L ≠ []) : ¬ M b ∧ M g ∧ g < w.heap.size ∧ b < w.heap.size := by
  obtain ⟨pv, h1, h2, h3⟩ := h
  rcases h3 with ⟨_, h3⟩ | ⟨off, cap, C, _, _, _, g4, g5, _⟩
  · exact (hne h3).elim
  · exact ⟨h2, g4, lt_of_block g5, lt_of_block h1⟩

set_option maxRecDepth 100000 in
set_option maxHeartbeats 1000000 in
theorem wakes_any (w : World) : Calls Try.prog 8 #[] w fun e w' => e = .returned (.bool true) ∧ Below w.heap.size w w' := by
  have k1 := Lib.run_convert_bytes_const (P := Try.prog) w 31 5 #[.int .u8 97, .int .u8 98] 2 2 Try.underlying31 Try.underlying5
  have k2 : (convert 31 31 (.slice (some ⟨w.heap.size + 1, 0, none⟩) 1 1)).run Try.prog ((w.alloc (.cells #[.int .u8 97, .int .u8 98] 5 (2, 3))).alloc (.cells #[.int .u8 99] 5)) = .ok (.slice (some ⟨w.heap.size + 1, 0, none⟩) 1 1) ((w.alloc (.cells #[.int .u8 97, .int .u8 98] 5 (2, 3))).alloc (.cells #[.int .u8 99] 5 (1, 2))) := by
    have := Lib.run_convert_bytes_const (P := Try.prog) (w.alloc (.cells #[.int .u8 97, .int .u8 98] 5 (2, 3))) 31 5 #[.int .u8 99] 1 1 Try.underlying31 Try.underlying5
    rwa [World.size_alloc] at this
  go_enter Try.func8, Try.ntmps8
  go_wp2_with fail
  have hW3 : ∃ W3, W3 = (((w.alloc (.cells #[.int .u8 97, .int .u8 98] 5 (2, 3))).alloc (.cells #[.int .u8 99] 5 (1, 2))).alloc (.cells #[.slice (some ⟨w.heap.size, 0, none⟩) 2 2, .slice none 0 0, .slice (some ⟨w.heap.size + 1, 0, none⟩) 1 1] 31)) := ⟨_, rfl⟩
  obtain ⟨W3, hW3⟩ := hW3
  have hB3 : Below w.heap.size w W3 := by
    subst hW3
    exact (((Below.refl _ _).alloc (Nat.le_refl _) _).alloc (by simp only [World.size_alloc]; omega) _).alloc (by simp only [World.size_alloc]; omega) _
  have q0 : W3.heap[w.heap.size]? = some (.cells #[.int .u8 97, .int .u8 98] 5 (2, 3)) := by
    subst hW3
    rw [Below.heap_alloc _ _ _ (by simp only [World.size_alloc]; omega), Below.heap_alloc _ _ _ (by simp only [World.size_alloc]; omega)]
    exact heap_alloc_new w _
  have q1 : W3.heap[w.heap.size + 1]? = some (.cells #[.int .u8 99] 5 (1, 2)) := by
    subst hW3
    rw [Below.heap_alloc _ _ _ (by simp only [World.size_alloc]; omega)]
    have := heap_alloc_new (w.alloc (.cells #[.int .u8 97, .int .u8 98] 5 (2, 3))) (.cells #[.int .u8 99] 5 (1, 2))
    rwa [World.size_alloc] at this
  have q2 : W3.heap[w.heap.size + 1 + 1]? = some (.cells #[.slice (some ⟨w.heap.size, 0, none⟩) 2 2, .slice none 0 0, .slice (some ⟨w.heap.size + 1, 0, none⟩) 1 1] 31) := by
    subst hW3
    have := heap_alloc_new ((w.alloc (.cells #[.int .u8 97, .int .u8 98] 5 (2, 3))).alloc (.cells #[.int .u8 99] 5 (1, 2))) (.cells #[.slice (some ⟨w.heap.size, 0, none⟩) 2 2, .slice none 0 0, .slice (some ⟨w.heap.size + 1, 0, none⟩) 1 1] 31)
    rwa [World.size_alloc, World.size_alloc] at this
  have hP : Pieces (fun _ => True) W3 (.slice (some ⟨w.heap.size + 1 + 1, 0, none⟩) 3 3) [[97, 98], [], [99]] := by
    refine ⟨_, 3, rfl, by decide, by unfold maxLen; omega, fun _ => ⟨_, 0, rfl, trivial, lt_of_block q2, fun i hi => ?_⟩⟩
    match i, hi with
    | 0, _ => exact ⟨.slice (some ⟨w.heap.size, 0, none⟩) 2 2, by simp [World.cell?, q2], bytes_one (l := [97, 98]) q0 rfl trivial (by decide) (by unfold maxLen; decide)⟩
    | 1, _ => exact ⟨.slice none 0 0, by simp [World.cell?, q2], .inl ⟨rfl, rfl⟩⟩
    | 2, _ => exact ⟨.slice (some ⟨w.heap.size + 1, 0, none⟩) 1 1, by simp [World.cell?, q2], bytes_one (l := [99]) q1 rfl trivial (by decide) (by unfold maxLen; decide)⟩
  rw [← hW3]
  clear hW3 q0 q1 q2 k1 k2
  refine (newSource_ok _ _ 1 W3 hP (by decide) (by decide) (by decide) (by decide)).mono ?_
  rintro e w4 ⟨rfl, ⟨g, _, hs4⟩, hB4⟩
  clear hP
  obtain ⟨_, ⟨hg1, _⟩, hg2, hb4⟩ := hs4.lt (by simp)
  have hz3 := hB3.size
  have hz4 := hB4.size
  have R0 := read_any (W3.heap.size + 1) (fun q => W3.heap.size + 2 ≤ q ∧ q < w4.heap.size) g [[97, 98], [], [99]] false 1 0 1 w4 hs4 (by decide) (by decide) (by decide) (by decide) (by decide) (by decide)
  rw [show readOf [[97, 98], [], [99]] false 1 1 = ([[98], [], [99]], true, [97], 0) from rfl] at R0
  go_wp2_with fail
  refine R0.mono ?_
  rintro e w5 ⟨o0, c0, rfl, hs5, hO0, F0⟩
  clear hs4 R0
  have R1 := read_any (W3.heap.size + 1) (fun q => W3.heap.size + 2 ≤ q ∧ q < w4.heap.size) g [[98], [], [99]] true 1 _ 9 w5 hs5 (by decide) (by decide) (by decide) (by decide) (by decide) (by decide)
  rw [show readOf [[98], [], [99]] true 1 9 = ([[], [], [99]], true, [98], 0) from rfl] at R1
  go_wp2_with fail
  refine R1.mono ?_
  rintro e w6 ⟨o1, c1, rfl, hs6, hO1, F1⟩
  clear hs5 R1
  have R2 := read_any (W3.heap.size + 1) (fun q => W3.heap.size + 2 ≤ q ∧ q < w4.heap.size) g [[], [], [99]] true 1 _ 9 w6 hs6 (by decide) (by decide) (by decide) (by decide) (by decide) (by decide)
  rw [show readOf [[], [], [99]] true 1 9 = ([[99]], false, [], 0) from rfl] at R2
  go_wp2_with fail
  refine R2.mono ?_
  rintro e w7 ⟨o2, c2, rfl, hs7, hO2, F2⟩
  clear hs6 R2
  have R3 := read_any (W3.heap.size + 1) (fun q => W3.heap.size + 2 ≤ q ∧ q < w4.heap.size) g [[99]] false 1 _ 9 w7 hs7 (by decide) (by decide) (by decide) (by decide) (by decide) (by decide)
  rw [show readOf [[99]] false 1 9 = ([[]], true, [99], 0) from rfl] at R3
  go_wp2_with fail
  refine R3.mono ?_
  rintro e w8 ⟨o3, c3, rfl, hs8, hO3, F3⟩
  clear hs7 R3
  have R4 := read_any (W3.heap.size + 1) (fun q => W3.heap.size + 2 ≤ q ∧ q < w4.heap.size) g [[]] true 1 _ 9 w8 hs8 (by decide) (by decide) (by decide) (by decide) (by decide) (by decide)
  rw [show readOf [[]] true 1 9 = ([], false, [], 7) from rfl] at R4
  go_wp2_with fail
  refine R4.mono ?_
  rintro e w9 ⟨o4, c4, rfl, hs9, hO4, F4⟩
  clear hs8 R4
  have z5 := F0.size
  have z6 := F1.size
  have z7 := F2.size
  have z8 := F3.size
  have B0 : Bytes (fun q => w4.heap.size ≤ q) w5 (.slice o0 1 c0) [97] := Bytes.of_owns hO0 rfl (fun q hq _ => hq)
  have V0 := conv_bytes ((((B0.kept F1 (fun q _ hq => ⟨by have : w4.heap.size ≤ q := hq; omega, by have : w4.heap.size ≤ q := hq; omega⟩)).kept F2 (fun q _ hq => ⟨by have : w4.heap.size ≤ q := hq; omega, by have : w4.heap.size ≤ q := hq; omega⟩)).kept F3 (fun q _ hq => ⟨by have : w4.heap.size ≤ q := hq; omega, by have : w4.heap.size ≤ q := hq; omega⟩)).kept F4 (fun q _ hq => ⟨by have : w4.heap.size ≤ q := hq; omega, by have : w4.heap.size ≤ q := hq; omega⟩)) rfl (by simp)
  clear B0
  have B1 : Bytes (fun q => w5.heap.size ≤ q) w6 (.slice o1 1 c1) [98] := Bytes.of_owns hO1 rfl (fun q hq _ => hq)
  have V1 := conv_bytes (((B1.kept F2 (fun q _ hq => ⟨by have : w5.heap.size ≤ q := hq; omega, by have : w5.heap.size ≤ q := hq; omega⟩)).kept F3 (fun q _ hq => ⟨by have : w5.heap.size ≤ q := hq; omega, by have : w5.heap.size ≤ q := hq; omega⟩)).kept F4 (fun q _ hq => ⟨by have : w5.heap.size ≤ q := hq; omega, by have : w5.heap.size ≤ q := hq; omega⟩)) rfl (by simp)
  clear B1
  have B3 : Bytes (fun q => w7.heap.size ≤ q) w8 (.slice o3 1 c3) [99] := Bytes.of_owns hO3 rfl (fun q hq _ => hq)
  have V3 := conv_bytes (B3.kept F4 (fun q _ hq => ⟨by have : w7.heap.size ≤ q := hq; omega, by have : w7.heap.size ≤ q := hq; omega⟩)) rfl (by simp)
  clear B3
  have hB9 : Below w.heap.size w w9 :=
    ((((((hB3.trans (hB4.mono hz3)).trans (F0.below (by omega) (fun q _ => ⟨by omega, by omega⟩))).trans (F1.below (by omega) (fun q _ => ⟨by omega, by omega⟩))).trans (F2.below (by omega) (fun q _ => ⟨by omega, by omega⟩))).trans (F3.below (by omega) (fun q _ => ⟨by omega, by omega⟩))).trans (F4.below (by omega) (fun q _ => ⟨by omega, by omega⟩)))
  clear F0 F1 F2 F3 F4 hO0 hO1 hO2 hO3 hO4 hB3 hB4 hs9
  go_wp2
  go_ret
  exact ⟨rfl, hB9⟩
end Go.Proofs.Ytellnnkgfjhmpaa
