/-
  The contracts of octet.Small, octet.Alike, field.Is and the reference's Small: a text in small letters.
-/
import Derived.Test.YtmjnjjjhdcecbaaDoorA
import Derived.Laws.IdiomStrings
import Derived.Laws.BytesArg
import Derived.Lib.Hide
namespace Go.Proofs.YtmjnjjjhdcecbaaDoor
open Go.RowKit

/-- A byte in small letters. -/
def low (c : UInt8) : UInt8 := if 65 ≤ c ∧ c ≤ 90 then c + 32 else c
/-- A text in small letters. -/
def small (s : ByteArray) : ByteArray := ⟨(s.data.toList.map low).toArray⟩

/-- The bounds of letters and digits, as the package-level variable holds them. -/
def Ends (w : World) : Prop := w.cell? ⟨1, 2, none⟩ = some (.int .u8 65) ∧ w.cell? ⟨1, 3, none⟩ = some (.int .u8 90)

theorem low_toNat (c : UInt8) : ((low c).toNat : Int) = if 65 ≤ (c.toNat : Int) ∧ (c.toNat : Int) ≤ 90 then (c.toNat : Int) + 32 else (c.toNat : Int) := by
  have h : (65 ≤ c ∧ c ≤ 90) ↔ (65 ≤ (c.toNat : Int) ∧ (c.toNat : Int) ≤ 90) := by
    rw [UInt8.le_iff_toNat_le, UInt8.le_iff_toNat_le]
    simp
    omega
  unfold low
  by_cases hc : 65 ≤ c ∧ c ≤ 90
  · rw [if_pos hc, if_pos (h.1 hc)]
    have := h.1 hc
    rw [UInt8.toNat_add]
    simp
    omega
  · rw [if_neg hc, if_neg (fun h' => hc (h.2 h'))]

theorem row_setCell' {w : World} {b i : Nat} {cs : Array Value} {t : TypeId} {fr : Nat × Nat} {v : Value} (h : w.heap[b]? = some (.cells cs t fr)) :
    (w.setCell ⟨b, i, none⟩ v).heap[b]? = some (.cells (cs.setIfInBounds i v) t fr) := by
  have hlt := lt_of_block h
  have h' : w.heap[b] = .cells cs t fr := by simpa [Array.getElem?_eq_getElem hlt] using h
  show (w.heap.modify b _)[b]? = _
  rw [Array.getElem?_eq_getElem (by simpa using hlt), Array.getElem_modify_self, h']
  rfl

/-- What the byte at j is when the first k have been turned. -/
def lowTo (s : ByteArray) (k j : Nat) : UInt8 := if j < k then low (s.data.toList.getD j 0) else s.data.toList.getD j 0
/-- Block b holds s, its first k bytes in small letters. -/
def LowRow (w : World) (b : Nat) (s : ByteArray) (k : Nat) : Prop :=
  ∃ C m, w.heap[b]? = some (.cells C 5 (m, m + 1)) ∧ C.size = m ∧ s.size ≤ m ∧ ∀ j, j < s.size → C[j]? = some (.int .u8 ((lowTo s k j).toNat : Int))
theorem LowRow.cell {w : World} {b : Nat} {s : ByteArray} {k : Nat} (h : LowRow w b s k) (j : Nat) (hj : j < s.size) : w.cell? ⟨b, j, none⟩ = some (.int .u8 ((lowTo s k j).toNat : Int)) ∧ w.frozen? ⟨b, j, none⟩ = false := by
  obtain ⟨C, m, h1, h2, h3, h4⟩ := h
  constructor
  · simp [World.cell?, h1, h4 j hj]
  · simp [World.frozen?, h1]; omega
theorem LowRow.step {w : World} {b : Nat} {s : ByteArray} {k : Nat} (h : LowRow w b s k) (hk : k < s.size) : LowRow (w.setCell ⟨b, k, none⟩ (.int .u8 ((low (s.data.toList.getD k 0)).toNat : Int))) b s (k + 1) := by
  obtain ⟨C, m, h1, h2, h3, h4⟩ := h
  refine ⟨_, m, row_setCell' h1, by simpa using h2, h3, fun j hj => ?_⟩
  by_cases e : k = j
  · subst e
    rw [Array.getElem?_setIfInBounds_self_of_lt (by omega)]
    simp [lowTo]
  · rw [Array.getElem?_setIfInBounds_ne e, h4 j hj]
    unfold lowTo
    by_cases hl : j < k
    · rw [if_pos hl, if_pos (by omega)]
    · rw [if_neg hl, if_neg (by omega)]
theorem LowRow.skip {w : World} {b : Nat} {s : ByteArray} {k : Nat} (h : LowRow w b s k) (hk : low (s.data.toList.getD k 0) = s.data.toList.getD k 0) : LowRow w b s (k + 1) := by
  obtain ⟨C, m, h1, h2, h3, h4⟩ := h
  refine ⟨C, m, h1, h2, h3, fun j hj => ?_⟩
  rw [h4 j hj]
  unfold lowTo
  by_cases hl : j < k
  · rw [if_pos hl, if_pos (by omega)]
  · rw [if_neg hl]
    by_cases e : j = k
    · subst e; rw [if_pos (by omega), hk]
    · rw [if_neg (by omega)]
theorem LowRow.new (w : World) (s : ByteArray) (cap : Nat) : LowRow (w.alloc (.cells (bytesRow s cap) 5 ((bytesRow s cap).size, (bytesRow s cap).size + 1))).drew w.heap.size s 0 := by
  refine ⟨bytesRow s cap, _, ?_, rfl, ?_, fun j hj => ?_⟩
  · show (w.heap.push _)[w.heap.size]? = _
    simp
  · unfold bytesRow
    simp
  · have hj' : j < s.data.size := hj
    rw [bytesRow_at s cap j hj']
    simp [lowTo, Array.getElem?_eq_getElem hj']
theorem LowRow.kept {w w' : World} {b : Nat} {s : ByteArray} {k : Nat} (h : LowRow w b s k) (e : w'.heap[b]? = w.heap[b]?) : LowRow w' b s k := by
  obtain ⟨C, m, h1, h⟩ := h
  exact ⟨C, m, e.trans h1, h⟩
theorem small_list (s : ByteArray) : (s.data.toList.map low).length = s.size := by simp
theorem LowRow.back {P : Program} {w : World} {b : Nat} {s : ByteArray} (h : LowRow w b s s.size) (src dst e : TypeId) (cap : Nat) (hs : P.underlying src = some (.slice e)) (he : P.underlying e = some (.int .u8)) (hd : P.underlying dst = some .string) :
    (convert src dst (.slice (some ⟨b, 0, none⟩) s.size cap)).run P w = .ok (.string (small s)) w := by
  have := run_convert_bytes_back (P := P) w src dst e ⟨b, 0, none⟩ cap (s.data.toList.map low) hs he hd (fun j hj => by
    rw [small_list] at hj
    rw [show (⟨b, 0, none⟩ : Addr).add j = ⟨b, j, none⟩ by unfold Addr.add; split <;> simp_all]
    rw [(h.cell j hj).1]
    have hj' : j < s.data.size := hj
    simp [lowTo, hj])
  rw [small_list] at this
  exact this

set_option maxHeartbeats 400000 in
theorem small_any (s : ByteArray) (w : World) (hs : s.size ≤ maxLen) (he : Ends w) (h1 : 1 < w.heap.size) :
    Calls Tryd.prog 22 #[.string s] w fun e w' => e = .returned (.string (small s)) ∧ Below w.heap.size w w' := by
  unfold maxLen at hs
  have hconv := run_bytes_of_string (P := Tryd.prog) w 9 45 5 s Tryd.underlying9 Tryd.underlying45 Tryd.underlying5
  go_enter Tryd.func22, Tryd.ntmps22
  go_wp2
  have hrow := LowRow.new w s (grownCap w s.size 0 5)
  have hB : Below w.heap.size w (w.alloc (.cells (bytesRow s (grownCap w s.size 0 5)) 5 ((bytesRow s (grownCap w s.size 0 5)).size, (bytesRow s (grownCap w s.size 0 5)).size + 1))).drew := ((Below.refl _ _).alloc (Nat.le_refl _) _).drew
  generalize (w.alloc (.cells (bytesRow s (grownCap w s.size 0 5)) 5 ((bytesRow s (grownCap w s.size 0 5)).size, (bytesRow s (grownCap w s.size 0 5)).size + 1))).drew = W at *
  generalize grownCap w s.size 0 5 = cap at *
  clear hconv
  go_loopw [10] (fun i wr => ∃ k : Nat, i = .int .i64 k ∧ k ≤ s.size ∧ LowRow wr w.heap.size s k ∧ Below w.heap.size w wr) (fun i _ => s.size - (intOf i).toNat)
  case atStart => exact ⟨0, rfl, Nat.zero_le _, hrow, hB⟩
  case round =>
    obtain ⟨k, rfl, hk, hr, hb⟩ := hrel
    by_cases hlt : k < s.size
    · obtain ⟨hc, hf⟩ := hr.cell k hlt
      have hd0 : lowTo s k k = s.data.toList.getD k 0 := by simp [lowTo]
      rw [hd0] at hc
      have hln := low_toNat (s.data.toList.getD k 0)
      have hst := hr.step hlt
      have hsk := hr.skip
      generalize s.data.toList.getD k 0 = c at *
      obtain ⟨e2, e3⟩ := he
      have e2' : wr.cell? ⟨1, 2, none⟩ = some (.int .u8 65) := (hb.cell (p := ⟨1, 2, none⟩) h1).trans e2
      have e3' : wr.cell? ⟨1, 3, none⟩ = some (.int .u8 90) := (hb.cell (p := ⟨1, 3, none⟩) h1).trans e3
      have hc255 : (c.toNat : Int) ≤ 255 := by have := c.toNat_lt; omega
      clear e2 e3 hr hd0
      by_cases hup : 65 ≤ (c.toNat : Int) ∧ (c.toNat : Int) ≤ 90
      · rw [if_pos hup] at hln
        rw [hln] at hst
        obtain ⟨u1, u2⟩ := hup
        clear hsk hln
        go_wp2
        go_roundw
        case rel => exact ⟨k + 1, by go_num, by omega, hst, hb.setCell (by simp) _⟩
        case measure => simp [intOf]; omega
      · rw [if_neg hup] at hln
        have hlc : low c = c := by
          apply UInt8.toNat_inj.1
          omega
        have hsk' := hsk hlc
        clear hsk hln hst hlc
        by_cases hup1 : 65 ≤ (c.toNat : Int)
        · have hup2 : ¬ (c.toNat : Int) ≤ 90 := fun h => hup ⟨hup1, h⟩
          clear hup
          go_wp2
          go_roundw
          case rel => exact ⟨k + 1, by go_num, by omega, hsk', hb⟩
          case measure => simp [intOf]; omega
        · clear hup
          go_wp2
          go_roundw
          case rel => exact ⟨k + 1, by go_num, by omega, hsk', hb⟩
          case measure => simp [intOf]; omega
    · have hks : k = s.size := by omega
      subst hks
      have hback := hr.back (P := Tryd.prog) 45 9 5 cap Tryd.underlying45 Tryd.underlying5 Tryd.underlying9
      go_wp2
      go_ret
      exact ⟨rfl, hb⟩
end Go.Proofs.YtmjnjjjhdcecbaaDoor
