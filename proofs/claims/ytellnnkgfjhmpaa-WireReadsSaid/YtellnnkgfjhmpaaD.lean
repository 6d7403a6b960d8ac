/-
  The contract of Source.Read.
-/
import Derived.Test.YtellnnkgfjhmpaaC
import Derived.WalkMore
import Derived.Deep.Onto
namespace Go.Proofs.Ytellnnkgfjhmpaa
open Go.RowKit

/-- One begun piece that is used up is skipped. -/
def skip (L : List (List UInt8)) (beg : Bool) : List (List UInt8) × Bool :=
  match L, beg with
  | [] :: t, true => (t, false)
  | L, beg => (L, beg)
/-- The number told at the end. -/
def endErr (en : Int) : Int := if en = 1 then 7 else if en = 2 then 9 else 0
/-- What is left of the pieces, whether the first was begun, what is told, the number. -/
def readOf (L : List (List UInt8)) (beg : Bool) (en : Int) (n : Nat) : List (List UInt8) × Bool × List UInt8 × Int :=
  match skip L beg with
  | ([], b) => ([], b, [], endErr en)
  | ([] :: t, _) => (t, false, [], 0)
  | (p :: t, _) => (p.drop n :: t, true, p.take n, 0)

theorem frm_block {ok : Nat → Prop} {w w' : World} (h : Frm ok w w') {b : Nat} {o : Obj} (hb : w.heap[b]? = some o) (ho : ok b) : w'.heap[b]? = some o := (h.block b (lt_of_block hb) ho).trans hb

theorem readOf_skip {L L' : List (List UInt8)} {beg beg' : Bool} (h : (L' = L ∧ beg' = beg) ∨ (beg' = false ∧ L = [] :: L' ∧ beg = true)) (en : Int) (n : Nat) : readOf L beg en n = readOf L' beg' en n := by
  rcases h with ⟨rfl, rfl⟩ | ⟨rfl, rfl, rfl⟩
  · rfl
  · simp [readOf, skip]

theorem Src.cells {w : World} {b g : Nat} {M : Nat → Prop} {L : List (List UInt8)} {beg : Bool} {en rd : Int} {sh : Bool} (h : Src w b M g L beg en rd sh) : ∃ o cap,
    w.heap[b]? = some (.cells #[.slice o L.length cap, .bool beg, .int .i64 en, .int .i64 rd, .bool sh] 69 (0, 0)) := by
  obtain ⟨pv, h1, _, h3⟩ := h
  rcases h3 with ⟨rfl, rfl⟩ | ⟨off, cap, C, rfl, _⟩
  · exact ⟨_, _, h1⟩
  · exact ⟨_, _, h1⟩

theorem Src.upd {w w' : World} {b g : Nat} {M : Nat → Prop} {L : List (List UInt8)} {beg beg' : Bool} {en en' rd rd' : Int} {sh sh' : Bool} (h : Src w b M g L beg en rd sh) (hf : Frm (fun q => q ≠ b) w w')
    (hb : ∀ pv, w.heap[b]? = some (.cells #[pv, .bool beg, .int .i64 en, .int .i64 rd, .bool sh] 69 (0, 0)) → w'.heap[b]? = some (.cells #[pv, .bool beg', .int .i64 en', .int .i64 rd', .bool sh'] 69 (0, 0))) : Src w' b M g L beg' en' rd' sh' := by
  obtain ⟨pv, h1, h2, h3⟩ := h
  refine ⟨pv, hb pv h1, h2, ?_⟩
  rcases h3 with h3 | ⟨off, cap, C, g1, g2, g3, g4, g5, g6⟩
  · exact .inl h3
  · refine .inr ⟨off, cap, C, g1, g2, g3, g4, (hf.block g (lt_of_block g5) (fun e => h2 (e ▸ g4))).trans g5, fun i hi => ?_⟩
    obtain ⟨vi, q1, q2⟩ := g6 i hi
    exact ⟨vi, q1, q2.kept hf (fun k hk hq e => h2 (e ▸ hq.1))⟩
theorem Src.begun {w : World} {b g : Nat} {M : Nat → Prop} {L : List (List UInt8)} {beg : Bool} {en rd : Int} {sh : Bool} (h : Src w b M g L beg en rd sh) (beg' : Bool) : Src (w.setCell ⟨b, 1, none⟩ (.bool beg')) b M g L beg' en rd sh :=
  h.upd ((Frm.refl _ _).setCell _ _ _ (fun _ h => h rfl)) (fun _ h => row_setCell' h)
theorem Src.told {w : World} {b g : Nat} {M : Nat → Prop} {L : List (List UInt8)} {beg : Bool} {en rd : Int} {sh : Bool} (h : Src w b M g L beg en rd sh) (rd' : Int) : Src (w.setCell ⟨b, 3, none⟩ (.int .i64 rd')) b M g L beg en rd' sh :=
  h.upd ((Frm.refl _ _).setCell _ _ _ (fun _ h => h rfl)) (fun _ h => row_setCell' h)
theorem src_drop {wr : World} {b g off cap : Nat} {M : Nat → Prop} {p : List UInt8} {t : List (List UInt8)} {C : Array Value} {beg : Bool} {en rd : Int} {sh : Bool} {pv : Value} {n : Nat}
    (hrow : wr.heap[b]? = some (.cells #[pv, .bool beg, .int .i64 en, .int .i64 rd, .bool sh] 69 (0, 0))) (hbb : ¬ M b) (hcap1 : (p :: t).length ≤ cap) (hcap2 : cap ≤ maxLen) (hg : M g)
    (hrg : wr.heap[g]? = some (.cells C 31 (0, 0))) (hcs : ∀ i, i < (p :: t).length → ∃ vi, C[off + i]? = some vi ∧ Bytes (fun q => M q ∧ q ≠ g) wr vi ((p :: t).getD i [])) (hn : n = t.length) :
    Src (wr.setCell ⟨b, 0, none⟩ (.slice (if cap = 1 then some ⟨g, off, none⟩ else some ⟨g, off + 1, none⟩) n (cap - 1))) b M g t beg en rd sh := by
  subst hn
  have hF : Frm (fun q => q ≠ b) wr (wr.setCell ⟨b, 0, none⟩ (.slice (if cap = 1 then some ⟨g, off, none⟩ else some ⟨g, off + 1, none⟩) t.length (cap - 1))) := (Frm.refl _ _).setCell _ _ _ (fun _ h => h rfl)
  simp only [List.length_cons] at hcap1 hcs
  by_cases hc : cap = 1
  · have ht : t = [] := List.length_eq_zero_iff.1 (by omega)
    subst ht
    refine ⟨_, row_setCell' hrow, hbb, .inr ⟨off, cap - 1, C, by rw [if_pos hc], by simp, by omega, hg, frm_block hF hrg (fun e => hbb (e ▸ hg)), fun i hi => by simp at hi⟩⟩
  · refine ⟨_, row_setCell' hrow, hbb, .inr ⟨off + 1, cap - 1, C, by rw [if_neg hc], by omega, by omega, hg, frm_block hF hrg (fun e => hbb (e ▸ hg)), fun i hi => ?_⟩⟩
    obtain ⟨vi, h1, h2⟩ := hcs (i + 1) (by omega)
    exact ⟨vi, by rw [← h1]; congr 1; omega, h2.kept hF (fun q _ hq e => hbb (e ▸ hq.1))⟩

theorem Bytes.take {ok : Nat → Prop} {w : World} {o : Option Addr} {m cap k : Nat} {l : List UInt8} (h : Bytes ok w (.slice o m cap) l) (hm : l.length = m) (hk : k ≤ m) (hc : m ≤ cap) (hc2 : cap ≤ maxLen) : Bytes ok w (.slice o k cap) (l.take k) := by
  have hlt : (l.take k).length = k := by rw [List.length_take]; omega
  rcases h with ⟨h1, h2⟩ | ⟨a, cap', h1, h2, h3, h4⟩
  · subst h2
    simp only [Value.slice.injEq] at h1
    obtain ⟨rfl, rfl, rfl⟩ := h1
    obtain rfl : k = 0 := by omega
    exact .inl ⟨rfl, rfl⟩
  · simp only [Value.slice.injEq] at h1
    obtain ⟨rfl, e, rfl⟩ := h1
    refine .inr ⟨a, cap, by rw [hlt], by omega, hc2, fun hne => ?_⟩
    obtain ⟨q1, q2, q3, q4⟩ := h4 (by rintro rfl; simp at hne)
    refine ⟨q1, q2, q3, fun i hi => ?_⟩
    rw [hlt] at hi
    rw [q4 i (by omega)]
    simp [List.getD, List.getElem?_take, hi]
theorem Bytes.drop {ok : Nat → Prop} {w : World} {o : Option Addr} {m cap k : Nat} {l : List UInt8} (h : Bytes ok w (.slice o m cap) l) (hm : l.length = m) (hk : k ≤ m) (hc : m ≤ cap) (hc2 : cap ≤ maxLen) (h1m : 1 ≤ m) :
    Bytes ok w (.slice (if cap = k then o else o.map (fun x => x.add k)) (m - k) (cap - k)) (l.drop k) := by
  have hlt : (l.drop k).length = m - k := by rw [List.length_drop]; omega
  rcases h with ⟨h1, h2⟩ | ⟨a, cap', h1, h2, h3, h4⟩
  · subst h2
    simp at hm
    omega
  · simp only [Value.slice.injEq] at h1
    obtain ⟨rfl, e, rfl⟩ := h1
    obtain ⟨q1, q2, q3, q4⟩ := h4 (by rintro rfl; simp at hm; omega)
    obtain ⟨ab, ao, asp⟩ := a
    simp only at q1 q2 q3 q4
    subst q1
    by_cases hcm : cap = k
    · refine .inr ⟨⟨ab, ao, none⟩, cap - k, by rw [hlt, if_pos hcm], by omega, by omega, fun hne => ?_⟩
      exact absurd hlt (by intro e2; exact hne (List.length_eq_zero_iff.1 (by omega)))
    · refine .inr ⟨⟨ab, ao + k, none⟩, cap - k, by rw [hlt, if_neg hcm, Option.map_some, WideShapes.add_plain], by omega, by omega, fun hne => ⟨rfl, q2, q3, fun i hi => ?_⟩⟩
      rw [hlt] at hi
      have := q4 (k + i) (by omega)
      simp only [Nat.add_assoc]
      rw [this]
      simp [List.getD, List.getElem?_drop]

theorem src_took {w5 : World} {b g off cap : Nat} {M : Nat → Prop} {p p' : List UInt8} {t : List (List UInt8)} {C : Array Value} {beg : Bool} {en rd rd' : Int} {sh : Bool} {vd : Value}
    (hrow : w5.heap[b]? = some (.cells #[.slice (some ⟨g, off, none⟩) (p :: t).length cap, .bool beg, .int .i64 en, .int .i64 rd, .bool sh] 69 (0, 0))) (hbb : ¬ M b) (hcap1 : (p :: t).length ≤ cap) (hcap2 : cap ≤ maxLen) (hg : M g)
    (hrg : w5.heap[g]? = some (.cells C 31 (0, 0))) (hcs : ∀ i, i < (p :: t).length → ∃ vi, C[off + i]? = some vi ∧ Bytes (fun q => M q ∧ q ≠ g) w5 vi ((p :: t).getD i []))
    (hvd : Bytes (fun q => M q ∧ q ≠ g) w5 vd p') :
    Src (((w5.setCell ⟨g, off, none⟩ vd).setCell ⟨b, 1, none⟩ (.bool true)).setCell ⟨b, 3, none⟩ (.int .i64 rd')).drew b M g (p' :: t) true en rd' sh ∧
    Frm (fun q => q ≠ b ∧ q ≠ g) w5 (((w5.setCell ⟨g, off, none⟩ vd).setCell ⟨b, 1, none⟩ (.bool true)).setCell ⟨b, 3, none⟩ (.int .i64 rd')).drew := by
  have hF1 : Frm (fun q => q ≠ g) w5 (w5.setCell ⟨g, off, none⟩ vd) := (Frm.refl _ _).setCell _ _ _ (fun _ h => h rfl)
  have hF : Frm (fun q => q ≠ b ∧ q ≠ g) w5 (((w5.setCell ⟨g, off, none⟩ vd).setCell ⟨b, 1, none⟩ (.bool true)).setCell ⟨b, 3, none⟩ (.int .i64 rd')).drew :=
    ((((Frm.refl _ _).setCell _ _ _ (fun _ h => h.2 rfl)).setCell _ _ _ (fun _ h => h.1 rfl)).setCell _ _ _ (fun _ h => h.1 rfl)).drew
  refine ⟨?_, hF⟩
  have hrow1 := frm_block hF1 hrow (fun e => hbb (by rw [e]; exact hg))
  have h0 : Src (w5.setCell ⟨g, off, none⟩ vd) b M g (p' :: t) beg en rd sh := by
    have hC0 : off < C.size := by
      obtain ⟨v0, q1, _⟩ := hcs 0 (by simp)
      exact (Array.getElem?_eq_some_iff.1 q1).1
    refine ⟨_, hrow1, hbb, .inr ⟨off, cap, _, rfl, hcap1, hcap2, hg, row_setCell' hrg, fun i hi => ?_⟩⟩
    rcases i with _ | i
    · exact ⟨vd, by simp [Array.getElem?_setIfInBounds, hC0], hvd.kept hF1 (fun q _ hq => hq.2)⟩
    · obtain ⟨vi, q1, q2⟩ := hcs (i + 1) hi
      refine ⟨vi, ?_, q2.kept hF1 (fun q _ hq => hq.2)⟩
      rw [Array.getElem?_setIfInBounds, if_neg (by omega)]
      exact q1
  have h1 := (h0.begun true).told rd'
  obtain ⟨pv, q1, q2, q3⟩ := h1
  refine ⟨pv, q1, q2, ?_⟩
  rcases q3 with q3 | ⟨off', cap', C', r1, r2, r3, r4, r5, r6⟩
  · exact .inl q3
  · exact .inr ⟨off', cap', C', r1, r2, r3, r4, r5, fun i hi => by
      obtain ⟨vi, s1, s2⟩ := r6 i hi
      exact ⟨vi, s1, s2.kept (ok' := fun _ => True) (Frm.refl _ _).drew (fun _ _ _ => trivial)⟩⟩

set_option maxRecDepth 100000 in
set_option maxHeartbeats 4000000 in
theorem read_any (b : Nat) (M : Nat → Prop) (g : Nat) (L : List (List UInt8)) (beg : Bool) (en rd : Int) (n : Nat) (w : World) (hs : Src w b M g L beg en rd false)
    (hn : 1 ≤ n) (hnm : n ≤ 9223372036854775807) (hrd : 0 ≤ rd) (hrd2 : rd ≤ 1000000) (hL : L.length ≤ 1000) (hl : ∀ p ∈ L, p.length ≤ 1000) :
    Calls Try.prog 11 #[.pointer (some ⟨b, 0, none⟩), .int .i64 (n : Int)] w fun e w' => ∃ o c,
      e = .returned (.tuple #[.slice o (readOf L beg en n).2.2.1.length c, .int .i64 (readOf L beg en n).2.2.2]) ∧
      Src w' b M g (readOf L beg en n).1 (readOf L beg en n).2.1 en (rd + (readOf L beg en n).2.2.1.length) false ∧
      w'.ownsRow w.heap.size 5 1 (.slice o (readOf L beg en n).2.2.1.length c) (readOf L beg en n).2.2.1.length ((readOf L beg en n).2.2.1.map byteVal) ∧
      Frm (fun q => q ≠ b ∧ q ≠ g) w w' := by
  have hc4 : w.cell? ⟨b, 4, none⟩ = some (.bool false) := by
    obtain ⟨pv, h1, _⟩ := hs
    simp [World.cell?, h1]
  go_enter Try.func11, Try.ntmps11
  go_wp2
  go_step3
  go_wp2
  go_step3
  go_wp2
  go_loopw [] (fun wr => ∃ L' beg', ((L' = L ∧ beg' = beg) ∨ (beg' = false ∧ L = [] :: L' ∧ beg = true)) ∧ Src wr b M g L' beg' en rd false ∧ Frm (fun q => q ≠ b) w wr) (fun wr => match wr.cell? ⟨b, 1, none⟩ with | some (.bool true) => 1 | _ => 0)
  case atStart => exact ⟨L, beg, .inl ⟨rfl, rfl⟩, hs, Frm.refl _ _⟩
  case round =>
    obtain ⟨L', beg', hor, hs', hf⟩ := hrel
    have hR := readOf_skip hor en n
    have HR := Lib.hid hR
    clear hR
    rcases L' with _ | ⟨p, t⟩
    · obtain ⟨o, cap, hrow⟩ := hs'.cells
      have c0 : wr.cell? ⟨b, 0, none⟩ = some (.slice o 0 cap) := by simp [World.cell?, hrow]
      have c2 : wr.cell? ⟨b, 2, none⟩ = some (.int .i64 en) := by simp [World.cell?, hrow]
      have hrr : readOf [] beg' en n = ([], beg', [], endErr en) := by cases beg' <;> rfl
      have HRR := Lib.hid hrr
      clear hrr
      by_cases h1 : en = 1
      · subst h1
        go_wp2
        rw [Exit.noGoto_ret]
        go_ret2
        rw [HR.out, HRR.out]
        exact ⟨_, _, rfl, by simpa using hs', World.ownsRow_nil _ _ _ _, hf.mono (fun q _ h => h.1)⟩
      · by_cases h2 : en = 2
        · subst h2
          go_wp2
          rw [Exit.noGoto_ret]
          go_ret2
          rw [HR.out, HRR.out]
          exact ⟨_, _, rfl, by simpa using hs', World.ownsRow_nil _ _ _ _, hf.mono (fun q _ h => h.1)⟩
        · have hee : endErr en = 0 := by simp [endErr, h1, h2]
          go_wp2
          rw [Exit.noGoto_ret]
          go_ret2
          rw [HR.out, HRR.out, hee]
          exact ⟨_, _, rfl, by simpa using hs', World.ownsRow_nil _ _ _ _, hf.mono (fun q _ h => h.1)⟩
    · obtain ⟨pv, hrow, hbb, hpv⟩ := hs'
      rcases hpv with ⟨_, hpv⟩ | ⟨off, cap, C, rfl, hcap1, hcap2, hg, hrg, hcs⟩
      · simp at hpv
      · have c0 : wr.cell? ⟨b, 0, none⟩ = some (.slice (some ⟨g, off, none⟩) (p :: t).length cap) := by simp [World.cell?, hrow]
        have c1 : wr.cell? ⟨b, 1, none⟩ = some (.bool beg') := by simp [World.cell?, hrow]
        have f0 : wr.frozen? ⟨b, 0, none⟩ = false := by simp [World.frozen?, hrow]
        have f1 : wr.frozen? ⟨b, 1, none⟩ = false := by simp [World.frozen?, hrow]
        obtain ⟨v0, hv0, hby⟩ := hcs 0 (by simp)
        have cg : wr.cell? ⟨g, off, none⟩ = some v0 := by
          rw [Nat.add_zero] at hv0
          simp [World.cell?, hrg, hv0]
        by_cases hp : p = []
        · subst hp
          obtain ⟨o0, cap0, rfl, _, _, _⟩ := hby.form
          have F8 : Frm (fun q => q ≠ b) w (wr.setCell ⟨b, 0, none⟩ (.slice (if cap = 1 then some ⟨g, off, none⟩ else some ⟨g, off + 1, none⟩) t.length (cap - 1))) := hf.setCell _ _ _ (fun _ h => h rfl)
          have F9 : Frm (fun q => q ≠ b) w ((wr.setCell ⟨b, 0, none⟩ (.slice (if cap = 1 then some ⟨g, off, none⟩ else some ⟨g, off + 1, none⟩) t.length (cap - 1))).setCell ⟨b, 1, none⟩ (.bool false)) := F8.setCell _ _ _ (fun _ h => h rfl)
          have hD := src_drop hrow hbb hcap1 hcap2 hg hrg hcs rfl
          rcases beg' with _ | _
          · have hrr : readOf ([] :: t) false en n = (t, false, [], 0) := rfl
            have HRR := Lib.hid hrr
            clear hrr
            go_wp2
            all_goals
              go_ret2
              rw [HR.out, HRR.out]
              refine ⟨_, _, rfl, by simpa [*] using hD, World.ownsRow_nil _ _ _ _, (by simpa [*] using F8 : Frm (fun q => q ≠ b) w _).mono (fun q _ h => h.1)⟩
          · have hor' : [] :: t = L ∧ beg = true := by
              rcases hor with ⟨h1, h2⟩ | ⟨h1, _⟩
              · exact ⟨h1, h2.symm⟩
              · cases h1
            have hD2 := hD.begun false
            have hm2 : ((wr.setCell ⟨b, 0, none⟩ (.slice (if cap = 1 then some ⟨g, off, none⟩ else some ⟨g, off + 1, none⟩) t.length (cap - 1))).setCell ⟨b, 1, none⟩ (.bool false)).cell? ⟨b, 1, none⟩ = some (.bool false) := by
              obtain ⟨o', c', e⟩ := hD2.cells
              simp [World.cell?, e]
            have HO := Lib.hid hor'
            have HM := Lib.hid hm2
            have HD := Lib.hid hD2
            clear hor' hor hD hD2 hm2
            have hm : wr.cell? ⟨b, 1, none⟩ = some (.bool true) := c1
            go_wp2
            all_goals
              go_roundw
              case rel => exact ⟨t, false, .inr ⟨rfl, HO.out.1.symm, HO.out.2⟩, HD.out, F9⟩
              case measure => rw [HM.out, hm]; decide
        · have h1 : 1 ≤ p.length := by cases p with | nil => exact (hp rfl).elim | cons _ _ => simp
          have hpl : p.length ≤ 1000 := by
            rcases hor with ⟨e, _⟩ | ⟨_, e, _⟩
            · exact hl p (e ▸ List.mem_cons_self)
            · exact hl p (e ▸ List.mem_cons_of_mem _ List.mem_cons_self)
          have hrr : readOf (p :: t) beg' en n = (p.drop n :: t, true, p.take n, 0) := by
            cases p with
            | nil => exact (hp rfl).elim
            | cons a q => cases beg' <;> rfl
          have c3 : wr.cell? ⟨b, 3, none⟩ = some (.int .i64 rd) := by simp [World.cell?, hrow]
          obtain ⟨o0, cap0, rfl, hcl0, hcl1, _⟩ := hby.form
          simp only [List.getD_cons_zero] at hby hcl0 cg
          have HRR := Lib.hid hrr
          have HC := Lib.hid hcs
          have HB := Lib.hid hby
          clear hrr hcs hby hor hp hl hL hs
          generalize hpm : p.length = m at *
          by_cases hnm : n ≤ m
          · skip
            have hK1 : 1 ≤ n := by omega
            have hKm : n ≤ m := by omega
            have HKL := Lib.hid (show (p.take n).length = n by rw [List.length_take]; omega)
            go_wp2_with fail
            refine (clone_any (ok := fun q => M q ∧ q ≠ g) (.slice o0 n cap0) (p.take n) _ (HB.out.take hpm hKm hcl0 hcl1) (by rw [HKL.out]; omega)).mono ?_
            rw [HKL.out]
            rintro e w5 ⟨o5, c5, rfl, hown5, hb5⟩
            have F5 : Frm (fun _ => True) wr w5 := Frm.of_below hb5 (fun q hq _ => hq)
            have hrow5 := frm_block F5 hrow trivial
            have hrg5 := frm_block F5 hrg trivial
            have HO5 := Lib.hid hown5
            have HB5 := Lib.hid (HB.out.kept F5 (fun _ _ _ => trivial))
            have HC5 := Lib.hid (fun i hi => (HC.out i hi).imp (fun vi h => And.intro h.1 (h.2.kept F5 (fun _ _ _ => trivial))))
            have d0 : w5.cell? ⟨b, 0, none⟩ = some (.slice (some ⟨g, off, none⟩) (p :: t).length cap) := by simp [World.cell?, hrow5]
            have d1 : w5.cell? ⟨b, 1, none⟩ = some (.bool beg') := by simp [World.cell?, hrow5]
            have d3 : w5.cell? ⟨b, 3, none⟩ = some (.int .i64 rd) := by simp [World.cell?, hrow5]
            have e1 : w5.frozen? ⟨b, 1, none⟩ = false := by simp [World.frozen?, hrow5]
            have e3 : w5.frozen? ⟨b, 3, none⟩ = false := by simp [World.frozen?, hrow5]
            have eg : w5.frozen? ⟨g, off, none⟩ = false := by simp [World.frozen?, hrg5]
            have dg := (F5.cell (p := ⟨g, off, none⟩) (lt_of_block hrg) trivial).trans cg
            have hbw := lt_of_block hrow
            have hgw := lt_of_block hrg
            clear hown5 c0 c1 f0 f1 c3 hrow cg hrg hc4 hv0
            go_wp2_with fail
            have hne : b ≠ g := fun e => hbb (by rw [e]; exact hg)
            have hne' : g ≠ b := fun e => hne e.symm
            have HD5 := Lib.hid (HB5.out.drop hpm hKm hcl0 hcl1 (by omega))
            have HS := Lib.hid (fun vd hvd => src_took (rd' := rd + (n : Int)) (p' := p.drop n) (vd := vd) hrow5 hbb hcap1 hcap2 hg hrg5 HC5.out hvd)
            have hoL := HO5.out.lt
            have HOL := Lib.hid hoL
            have F5' : Frm (fun q => q ≠ b) w w5 := hf.trans (F5.mono (fun _ _ _ => trivial))
            have hsz5 := hf.size
            clear hrow5 hrg5 hoL
            go_region
            go_wp2
            all_goals
              go_ret2
              rw [HR.out, HRR.out]
              have hFin := (HS.out _ (by simpa [*] using HD5.out))
              have hOw := owns_frm (HO5.out.mono hsz5) hFin.2 (fun q hq => by have := HOL.out q hq; exact ⟨by omega, by omega⟩)
              refine ⟨o5, c5, by rw [HKL.out]; rfl, by rw [HKL.out]; exact hFin.1, by rw [HKL.out]; exact hOw, (F5'.mono (fun q _ h => h.1)).trans hFin.2⟩
          · have HK2 := Lib.hid (show p.take n = p.take m ∧ p.drop n = p.drop m by rw [List.take_of_length_le (by omega), List.take_of_length_le (by omega), List.drop_of_length_le (by omega), List.drop_of_length_le (by omega)]; exact ⟨rfl, rfl⟩)
            rw [HK2.out.1, HK2.out.2] at HRR
            have hK1 : 1 ≤ m := by omega
            have hKm : m ≤ m := by omega
            have HKL := Lib.hid (show (p.take m).length = m by rw [List.length_take]; omega)
            go_wp2_with fail
            refine (clone_any (ok := fun q => M q ∧ q ≠ g) (.slice o0 m cap0) (p.take m) _ (HB.out.take hpm hKm hcl0 hcl1) (by rw [HKL.out]; omega)).mono ?_
            rw [HKL.out]
            rintro e w5 ⟨o5, c5, rfl, hown5, hb5⟩
            have F5 : Frm (fun _ => True) wr w5 := Frm.of_below hb5 (fun q hq _ => hq)
            have hrow5 := frm_block F5 hrow trivial
            have hrg5 := frm_block F5 hrg trivial
            have HO5 := Lib.hid hown5
            have HB5 := Lib.hid (HB.out.kept F5 (fun _ _ _ => trivial))
            have HC5 := Lib.hid (fun i hi => (HC.out i hi).imp (fun vi h => And.intro h.1 (h.2.kept F5 (fun _ _ _ => trivial))))
            have d0 : w5.cell? ⟨b, 0, none⟩ = some (.slice (some ⟨g, off, none⟩) (p :: t).length cap) := by simp [World.cell?, hrow5]
            have d1 : w5.cell? ⟨b, 1, none⟩ = some (.bool beg') := by simp [World.cell?, hrow5]
            have d3 : w5.cell? ⟨b, 3, none⟩ = some (.int .i64 rd) := by simp [World.cell?, hrow5]
            have e1 : w5.frozen? ⟨b, 1, none⟩ = false := by simp [World.frozen?, hrow5]
            have e3 : w5.frozen? ⟨b, 3, none⟩ = false := by simp [World.frozen?, hrow5]
            have eg : w5.frozen? ⟨g, off, none⟩ = false := by simp [World.frozen?, hrg5]
            have dg := (F5.cell (p := ⟨g, off, none⟩) (lt_of_block hrg) trivial).trans cg
            have hbw := lt_of_block hrow
            have hgw := lt_of_block hrg
            clear hown5 c0 c1 f0 f1 c3 hrow cg hrg hc4 hv0
            go_wp2_with fail
            have hne : b ≠ g := fun e => hbb (by rw [e]; exact hg)
            have hne' : g ≠ b := fun e => hne e.symm
            have HD5 := Lib.hid (HB5.out.drop hpm hKm hcl0 hcl1 (by omega))
            have HS := Lib.hid (fun vd hvd => src_took (rd' := rd + (m : Int)) (p' := p.drop m) (vd := vd) hrow5 hbb hcap1 hcap2 hg hrg5 HC5.out hvd)
            have hoL := HO5.out.lt
            have HOL := Lib.hid hoL
            have F5' : Frm (fun q => q ≠ b) w w5 := hf.trans (F5.mono (fun _ _ _ => trivial))
            have hsz5 := hf.size
            clear hrow5 hrg5 hoL
            go_region
            go_wp2
            all_goals
              go_ret2
              rw [HR.out, HRR.out]
              have hFin := (HS.out _ (by simpa [*] using HD5.out))
              have hOw := owns_frm (HO5.out.mono hsz5) hFin.2 (fun q hq => by have := HOL.out q hq; exact ⟨by omega, by omega⟩)
              refine ⟨o5, c5, by rw [HKL.out]; rfl, by rw [HKL.out]; exact hFin.1, by rw [HKL.out]; exact hOw, (F5'.mono (fun q _ h => h.1)).trans hFin.2⟩
end Go.Proofs.Ytellnnkgfjhmpaa
