/-
  Plain laws of a ring: an array of N bytes that holds a list from a place on, round.
-/
import Derived.Laws.CopyOwn
namespace Go.Proofs.Ytmgkomobamjneaa

/-- x, once round at most. -/
def ix (N x : Nat) : Nat := if x < N then x else x - N
theorem ix_mod {N x : Nat} (h : x < 2 * N) : x % N = ix N x := by
  unfold ix
  split
  · exact Nat.mod_eq_of_lt ‹_›
  · rw [Nat.mod_eq_sub_mod (by omega), Nat.mod_eq_of_lt (by omega)]
theorem ix_lt {N x : Nat} (h : x < 2 * N) : ix N x < N := by
  unfold ix
  split <;> omega

/-- The array C of N bytes holds l from h on, round. -/
structure Lies (C : List UInt8) (N h : Nat) (l : List UInt8) : Prop where
  len : C.length = N
  head : h < N
  fits : l.length ≤ N
  at_ : ∀ i, i < l.length → C.getD (ix N (h + i)) 0 = l.getD i 0

theorem splice_getD (L : List UInt8) (off : Nat) (cs : List UInt8) (j : Nat) (h : off + cs.length ≤ L.length) :
    (splice L off cs).getD j 0 = if off ≤ j ∧ j < off + cs.length then cs.getD (j - off) 0 else L.getD j 0 := by
  unfold splice
  simp only [List.getD, List.getElem?_append, List.getElem?_take, List.getElem?_drop, List.length_take]
  by_cases h1 : j < off
  · rw [if_pos (by omega), if_pos h1, if_neg (by omega)]
  · rw [if_neg (by omega)]
    by_cases h2 : j < off + cs.length
    · rw [if_pos (by omega), if_pos (by omega)]
      congr 2
      omega
    · rw [if_neg (by omega), if_neg (by omega)]
      congr 2
      omega
theorem splice_length (L : List UInt8) (off : Nat) (cs : List UInt8) (h : off + cs.length ≤ L.length) : (splice L off cs).length = L.length := length_splice L off cs h

/-- How many of n bytes from a place on stand ahead of the end. -/
def fst (N p n : Nat) : Nat := min n (N - p)

theorem Lies.write {C : List UInt8} {N h : Nat} {l : List UInt8} (hl : Lies C N h l) (b : List UInt8) (n f : Nat) (hn : n = min b.length (N - l.length)) (hf : f = fst N (ix N (h + l.length)) n) :
    Lies (splice (splice C (ix N (h + l.length)) (b.take f)) 0 ((b.drop f).take (n - f))) N h (l ++ b.take n) := by
  obtain ⟨h1, h2, h3, h4⟩ := hl
  have hfr : ix N (h + l.length) < N := ix_lt (by omega)
  generalize hfrom : ix N (h + l.length) = from_ at *
  unfold fst at hf
  have hbl : (b.take f).length = f := by simp; omega
  have hbl2 : ((b.drop f).take (n - f)).length = n - f := by simp; omega
  have e1 : (splice C from_ (b.take f)).length = N := by rw [splice_length _ _ _ (by omega)]; exact h1
  refine ⟨by rw [splice_length _ _ _ (by omega)]; exact e1, h2, by simp; omega, fun i hi => ?_⟩
  have hi' : i < l.length + n := by simp at hi; omega
  rw [splice_getD _ _ _ _ (by omega), splice_getD _ _ _ _ (by omega), hbl, hbl2]
  unfold ix at *
  by_cases hil : i < l.length
  · have hgd : (l ++ b.take n).getD i 0 = l.getD i 0 := by simp [List.getD, List.getElem?_append, hil]
    rw [hgd, ← h4 i hil]
    rw [if_neg (by split at hfrom <;> split <;> omega), if_neg (by split at hfrom <;> split <;> omega)]
  · have hgd : (l ++ b.take n).getD i 0 = b.getD (i - l.length) 0 := by
      simp only [List.getD, List.getElem?_append, if_neg hil, List.getElem?_take]
      rw [if_pos (by omega)]
    rw [hgd]
    by_cases hk : i - l.length < f
    · have hp : (if h + i < N then h + i else h + i - N) = from_ + (i - l.length) := by split at hfrom <;> split <;> omega
      rw [hp, if_neg (by omega), if_pos (by omega)]
      simp only [List.getD, List.getElem?_take]
      rw [if_pos (by omega)]
      congr 2
      omega
    · have hp : (if h + i < N then h + i else h + i - N) = i - l.length - f := by split at hfrom <;> split <;> omega
      rw [hp, if_pos (by omega)]
      simp only [List.getD, List.getElem?_take, List.getElem?_drop]
      rw [if_pos (by omega)]
      congr 2
      omega

theorem Lies.drop {C : List UInt8} {N h : Nat} {l : List UInt8} (hl : Lies C N h l) (m : Nat) (hm : m ≤ l.length) : Lies C N (ix N (h + m)) (l.drop m) := by
  obtain ⟨h1, h2, h3, h4⟩ := hl
  refine ⟨h1, ix_lt (by omega), by simp; omega, fun i hi => ?_⟩
  have hi' : i < l.length - m := by simpa using hi
  have e := h4 (m + i) (by omega)
  have hp : ix N (ix N (h + m) + i) = ix N (h + (m + i)) := by
    unfold ix
    split <;> split <;> (try split) <;> omega
  rw [hp, e]
  simp [List.getD]

theorem Lies.zero (N : Nat) (h : 0 < N) : Lies (List.replicate N 0) N 0 [] := ⟨by simp, h, by simp, fun i hi => by simp at hi⟩

/-- The bytes of the first run, and of the second. -/
theorem Lies.one {C : List UInt8} {N h : Nat} {l : List UInt8} (hl : Lies C N h l) (j : Nat) (hj : j < fst N h l.length) : C.getD (h + j) 0 = (l.take (fst N h l.length)).getD j 0 := by
  obtain ⟨h1, h2, h3, h4⟩ := hl
  have e := h4 j (by unfold fst at hj; omega)
  unfold fst at *
  unfold ix at e
  rw [if_pos (by omega)] at e
  rw [e]
  simp only [List.getD, List.getElem?_take]
  rw [if_pos (by omega)]
theorem Lies.two {C : List UInt8} {N h : Nat} {l : List UInt8} (hl : Lies C N h l) (j : Nat) (hj : j < l.length - fst N h l.length) : C.getD j 0 = (l.drop (fst N h l.length)).getD j 0 := by
  obtain ⟨h1, h2, h3, h4⟩ := hl
  unfold fst at *
  have e := h4 (min l.length (N - h) + j) (by omega)
  unfold ix at e
  rw [if_neg (by omega), show h + (min l.length (N - h) + j) - N = j by omega] at e
  rw [e]
  simp only [List.getD, List.getElem?_drop]
end Go.Proofs.Ytmgkomobamjneaa
