/-
  The contracts of New, Write, Drop, Spans.
-/
import Derived.Test.YtmgkomobamjneaaB
namespace Go.Proofs.Ytmgkomobamjneaa
open Go.RowKit

theorem frm_setRow (g : Nat) (w : World) (cs : Array Value) : Frm (fun q => q ≠ g) w (w.setRow g cs) := ⟨rfl, rfl, rfl, by simp [World.setRow], fun k _ hk => setRow_other w g k cs hk⟩
theorem row_setCell' {w : World} {b i : Nat} {cs : Array Value} {t : TypeId} {fr : Nat × Nat} {v : Value} (h : w.heap[b]? = some (.cells cs t fr)) :
    (w.setCell ⟨b, i, none⟩ v).heap[b]? = some (.cells (cs.setIfInBounds i v) t fr) := by
  have hlt := lt_of_block h
  have h' : w.heap[b] = .cells cs t fr := by simpa [Array.getElem?_eq_getElem hlt] using h
  show (w.heap.modify b _)[b]? = _
  rw [Array.getElem?_eq_getElem (by simpa using hlt), Array.getElem_modify_self, h']
  rfl

/-- 'copy(dst, src)', dst in a row that is known whole: what else there is stays. -/
theorem wpList_copy_frm {P : Program} {w : World} {ops : Array Oper} {rest : List Oper} {o : Oper} {a : Act} {Q : Exit → Act → World → Prop} (hgd : o.guard = none) (d s : Operand) (dT sT : TypeId)
    (ho : o.op = .call { callee := .builtin .copy, args := #[d, s], argTypes := #[dT, sT] }) (elem : TypeId) (hu : P.underlying dT = some (.slice elem)) (hsz : (P.info? elem).map (·.size) = some 1)
    (dp sp : Option Addr) (dLen dCap sLen sCap : Nat) (hd : a.eval d = .slice dp dLen dCap) (hs : a.eval s = .slice sp sLen sCap)
    (g off : Nat) (cur : List Value) (t : TypeId) (hg : w.heap[g]? = some (.cells cur.toArray t (0, 0))) (cs : List Value) (hn : cs.length = Nat.min sLen dLen)
    (hpos : 0 < cs.length → dp = some ⟨g, off, none⟩ ∧ ∃ ad, sp = some ad ∧ ∀ j v, cs[j]? = some v → w.cell? (ad.add j) = some v)
    (hfit : off + cs.length ≤ cur.length) (h1 : ∀ v ∈ cs, v.oneCell' = true) (k : Nat) (hk : cs.length = k)
    (h : ∀ w', Hid (w'.heap[g]? = some (.cells (splice cur off cs).toArray t (0, 0))) → Frm (fun q => q ≠ g) w w' → wpList P ops Q rest (a.put o.dst (.int .i64 (k : Nat))) w') :
    wpList P ops Q (o :: rest) a w := by
  subst hk
  by_cases h0 : cs.length = 0
  · obtain rfl : cs = [] := List.eq_nil_of_length_eq_zero h0
    refine wpList_copy_nothing hgd d s dT sT ho elem hu hsz dp sp dLen dCap sLen sCap hd hs (by simpa using hn.symm) ?_
    exact h w (show _ = _ by simpa [splice] using hg) (Frm.refl _ _)
  · obtain ⟨rfl, ad, rfl, hsrc⟩ := hpos (by omega)
    refine wpList_copy_own hgd d s dT sT ho elem hu hsz g off dLen dCap ad sLen sCap hd hs cur.toArray t hg cs hn hsrc (by simpa using hfit) h1 ?_
    exact h _ (show _ = _ by simpa [splice] using setRow_heap w g _ _ t _ hg) (frm_setRow _ _ _)

/-- 's[l:h]': where something is in it, it begins l cells on. -/
theorem wpList_slice_lh {w : World} {ops : Array Oper} {rest : List Oper} {o : Oper} {a : Act} {Q : Exit → Act → World → Prop} (hgd : o.guard = none) (x lo hi : Operand)
    (ho : o.op = .slice 22 x (some lo) (some hi) none) (p : Option Addr) (len cap : Nat) (hx : a.eval x = .slice p len cap) (l h : Nat) (L H : Int) (hl : a.eval lo = .int .i64 L) (hh : a.eval hi = .int .i64 H) (eL : L = l) (eH : H = h)
    (h1 : l ≤ h) (h2 : h ≤ cap) (K : ∀ o2, (l < h → o2 = p.map (·.add l)) → wpList Try.prog ops Q rest (a.put o.dst (.slice o2 (h - l) (cap - l))) w) : wpList Try.prog ops Q (o :: rest) a w := by
  refine wpList_plain hgd fun K' hK => ?_
  subst eL eH
  have hu : Try.prog.underlying 22 = some (.slice 5) := Try.underlying22
  have hsz : (sizeOf 5).run Try.prog w = .ok 1 w := by kernel_rfl
  have hrun : (Instr.sliceAt 22 (.slice p len cap) (some (.int .i64 (l : Nat))) (some (.int .i64 (h : Nat))) none).run Try.prog w = .ok (.slice (if cap = l then p else p.map (·.add l)) (h - l) (cap - l)) w := by
    rw [run_sliceAt_slice w 22 _ _ _ _ hu, run_slice_lh w 22 p len cap hu .i64 .i64 l h (by omega) (by omega) (by omega)]
    show ((sizeOf 5).run Try.prog w).andThen _ = _
    rw [hsz]
    simp [Result.andThen, sliced]
  unfold Oper.wp
  simp [execOp, ho, hx, hl, hh, hrun, Result.andThen]
  refine hK _ _ (K _ fun hlt => ?_)
  rw [if_neg (by omega)]

theorem new_no (n : Int) (w : World) (h : n < 1 ∨ 65536 < n) : Calls Try.prog 9 #[.int .i64 n] w fun e w' => e = .returned (.tuple #[.pointer none, .int .i64 1]) ∧ w = w' := by
  rcases h with h | h
  · go_enter Try.func9, Try.ntmps9
    go_wp2
    go_ret2
    exact ⟨rfl, rfl⟩
  · go_enter Try.func9, Try.ntmps9
    go_wp2
    go_ret2
    exact ⟨rfl, rfl⟩

theorem made_zero (n : Nat) : (madeCells #[Value.int .u8 0] n).toList = (List.replicate n (0 : UInt8)).map byteVal := by

  rw [toList_madeCells_one, List.map_replicate]
  rfl

theorem new_ok (n : Nat) (w : World) (h0 : 1 ≤ n) (h1 : n ≤ 1000) : Calls Try.prog 9 #[.int .i64 n] w fun e w' => ∃ b g, e = .returned (.tuple #[.pointer (some ⟨b, 0, none⟩), .int .i64 0]) ∧ w.heap.size ≤ b ∧ w.heap.size ≤ g ∧ Rng w' b g n 0 [] ∧ Below w.heap.size w w' := by
  obtain ⟨i0, hi, hz0, hz1, hz2⟩ := info_parts Try.info5
  go_enter Try.func9, Try.ntmps9
  go_wp2_with (at_make; refine wpList_make_full _ rfl _ _ 22 rfl w.heap.size 5 i0 (.int .u8 0) 1 Try.underlying22 hi hz0 hz1 .i64 .i64 _ _ n rfl rfl rfl rfl ?c1 ?c2 ?c3 ?_)
  case c1 => rw [hz2]; omega
  case c2 => unfold maxLen; omega
  case c3 => omega
  intro w1 hown hgrow
  rw [made_zero] at hown
  have hrow : w1.heap[w.heap.size]? = some (.cells ((List.replicate n (0 : UInt8)).map byteVal).toArray 5 (0, 0)) := by
    obtain ⟨_, h2⟩ := hown
    rcases h2 with ⟨h2, _⟩ | ⟨g, cap, cur, hv, h3, h4, h5, h6, h7, h8⟩
    · cases h2
    · cases hv
      rw [h4, ← h8, List.take_of_length_le (by simp; omega)]
  have hb1 : Below w.heap.size w w1 := (Below.refl _ w).grown hgrow (Nat.le_refl _) (fun k e => by cases e)
  have hlt := lt_of_block hrow
  have HR := Lib.hid hrow
  clear hrow hown hgrow
  go_wp2
  go_ret2
  exact ⟨_, w.heap.size, rfl, by omega, Nat.le_refl _, ⟨heap_alloc_new _ _, by omega, by omega, _, Lies.zero n (by omega), (Below.heap_alloc _ _ _ hlt).trans HR.out⟩, hb1.alloc (by omega) _⟩

/-- How many of k are meant by n. -/
def cut (n : Int) (k : Nat) : Nat := if n < 0 then 0 else min n.toNat k
theorem cut_le (n : Int) (k : Nat) : cut n k ≤ k := by unfold cut; split <;> omega

theorem Rng.drop {w : World} {b g N h : Nat} {l : List UInt8} (hr : Rng w b g N h l) (m : Nat) (hm : m ≤ l.length) (L : Int) (hL : L = (l.length : Int) - m) :
    Rng ((w.setCell ⟨b, 1, none⟩ (.int .i64 (ix N (h + m) : Nat))).setCell ⟨b, 2, none⟩ (.int .i64 L)) b g N (ix N (h + m)) (l.drop m) ∧
    Frm (fun q => q ≠ b) w ((w.setCell ⟨b, 1, none⟩ (.int .i64 (ix N (h + m) : Nat))).setCell ⟨b, 2, none⟩ (.int .i64 L)) := by
  obtain ⟨C, h1, h2⟩ := hr.arr
  have F : Frm (fun q => q ≠ b) w ((w.setCell ⟨b, 1, none⟩ (.int .i64 (ix N (h + m) : Nat))).setCell ⟨b, 2, none⟩ (.int .i64 L)) := ((Frm.refl _ _).setCell _ _ _ (fun _ h => h rfl)).setCell _ _ _ (fun _ h => h rfl)
  refine ⟨⟨?_, hr.ne, hr.small, C, h1.drop m hm, frm_block F h2 (fun e => hr.ne e.symm)⟩, F⟩
  have := row_setCell' (i := 2) (v := .int .i64 L) (row_setCell' (i := 1) (v := .int .i64 (ix N (h + m) : Nat)) hr.row)
  rw [this]
  have e : L = ((l.drop m).length : Int) := by rw [hL, List.length_drop]; omega
  rw [e]
  rfl

theorem drewBoth {w W : World} {b g N h : Nat} {l : List UInt8} {ok : Nat → Prop} (hr : Rng W b g N h l ∧ Frm ok w W) : Rng W.drew b g N h l ∧ Frm ok w W.drew :=
  ⟨⟨hr.1.row, hr.1.ne, hr.1.small, hr.1.arr⟩, hr.2.drew⟩

set_option maxHeartbeats 1000000 in
theorem drop_any (b g N h : Nat) (l : List UInt8) (n : Int) (w : World) (hr : Rng w b g N h l) (hn : n ≤ 9223372036854775807) :
    Calls Try.prog 15 #[.pointer (some ⟨b, 0, none⟩), .int .i64 n] w fun e w' => e = .returned (.int .i64 (cut n l.length : Nat)) ∧ Rng w' b g N (ix N (h + cut n l.length)) (l.drop (cut n l.length)) ∧ Frm (fun q => q ≠ b) w w' := by
  obtain ⟨c0, c1, c2, f0, f1, f2⟩ := row3 hr.row
  obtain ⟨hh, hl, hN, hb, hg⟩ := hr.bd
  have hc := cut_le n l.length
  have hD := fun L hL => hr.drop (cut n l.length) hc L hL
  have hp : ((h : Int) + (cut n l.length : Nat)) % (N : Int) = ((ix N (h + cut n l.length) : Nat) : Int) := by rw [← ix_mod (by omega)]; rfl
  have HD := Lib.hid hD
  have hip : ix N (h + cut n l.length) < N := ix_lt (by omega)
  clear hD hr
  have hcase : (n < 0 ∧ cut n l.length = 0) ∨ (0 ≤ n ∧ n ≤ l.length ∧ ((cut n l.length : Nat) : Int) = n) ∨ ((l.length : Int) < n ∧ cut n l.length = l.length) := by
    unfold cut
    by_cases h0 : n < 0
    · exact .inl ⟨h0, if_pos h0⟩
    · rw [if_neg h0]
      by_cases h1 : n ≤ l.length
      · exact .inr (.inl ⟨by omega, h1, by omega⟩)
      · exact .inr (.inr ⟨by omega, by omega⟩)
  rcases hcase with ⟨h0, hK⟩ | ⟨h0, h1, hK⟩ | ⟨h1, hK⟩
  · rw [hK] at hp hip HD ⊢
    simp only [Nat.add_zero, Int.natCast_zero, Int.add_zero] at hp hip HD
    go_enter Try.func15, Try.ntmps15
    go_wp2
    go_region
    go_wp2
    go_ret
    refine ⟨rfl, ?_⟩
    exact drewBoth (HD.out _ (by omega))
  · generalize cut n l.length = K at *
    subst hK
    go_enter Try.func15, Try.ntmps15
    go_wp2
    go_region
    go_wp2
    go_ret
    exact ⟨rfl, drewBoth (HD.out _ (by omega))⟩
  · rw [hK] at hp hip HD ⊢
    go_enter Try.func15, Try.ntmps15
    go_wp2
    go_region
    go_wp2
    go_ret
    refine ⟨rfl, ?_⟩
    exact drewBoth (HD.out _ (by omega))
end Go.Proofs.Ytmgkomobamjneaa
