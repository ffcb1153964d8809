/- apart: whose each word is, walked. -/
import Derived.Test.YtmbcfbehchpfbaaUn
import Derived.Deep.LoopGhost
namespace Go.Proofs.Ytmbcfbehchpfbaa
open Go.RowKit

def fl (N : Nat) (f : Nat → Int) : List Int := (List.range N).map f
theorem fl_len (N : Nat) (f : Nat → Int) : (fl N f).length = N := by simp [fl]
theorem fl_get {N k : Nat} (f : Nat → Int) (h : k < N) : (fl N f)[k]? = some (f k) := by simp [fl, h]
theorem fl_congr {N : Nat} {f g : Nat → Int} (h : ∀ k, k < N → f k = g k) : fl N f = fl N g := by
  unfold fl
  apply List.map_congr_left
  intro k hk
  exact h k (List.mem_range.1 hk)
theorem fl_set (N : Nat) (f : Nat → Int) (k : Nat) (x : Int) : (fl N f).set k x = fl N (fun j => if j = k then x else f j) := by
  apply List.ext_getElem?
  intro j
  rw [List.getElem?_set]
  by_cases hj : j < N
  · rw [fl_get _ hj, fl_get _ hj, fl_len]
    by_cases h : k = j
    · subst h; simp [hj]
    · rw [if_neg h, if_neg (fun e => h e.symm)]
  · rw [List.getElem?_eq_none (by rw [fl_len]; omega), List.getElem?_eq_none (by rw [fl_len]; omega), fl_len]
    split
    · rw [if_neg (by omega)]
    · rfl
theorem fl_rep (N : Nat) : List.replicate N (0 : Int) = fl N (fun _ => 0) := by
  apply List.ext_getElem?
  intro j
  rw [List.getElem?_replicate]
  by_cases hj : j < N
  · rw [fl_get _ hj, if_pos hj]
  · rw [List.getElem?_eq_none (by rw [fl_len]; omega), if_neg hj]
/-- What one ask does to whose each word is: f before, g behind. -/
def ApStep (N : Nat) (rd : Bool) (wd : Int → Nat) (i : Nat) (f g : Nat → Int) (a : Int × Int) (c t : Int) : Prop :=
  (c ≠ 0 ∧ ∀ k, k < N → g k = f k) ∨
  (c = 0 ∧ a.1 = 2 ∧ ∃ p : Nat, a.2 = (p : Int) ∧ p < N ∧ f p ≠ 0 ∧ ∀ k, k < N → g k = if f k = f p then 0 else f k) ∨
  (c = 0 ∧ a.1 ≠ 2 ∧ ∃ at_ n : Nat, t = (at_ : Int) ∧ wd a.2 = n ∧ (rd = false → a.2 = (n : Int)) ∧ 1 ≤ n ∧ at_ + n ≤ N ∧ (rd = true → at_ % n = 0) ∧ (∀ k, at_ ≤ k → k < at_ + n → f k = 0) ∧
    ∀ k, k < N → g k = if at_ ≤ k ∧ k < at_ + n then (i : Int) + 1 else f k)
structure ApartOk (N : Nat) (l : List (Int × Int)) (cs ats : List Int) (fr : List (Nat × Nat)) (rd : Bool) (wd : Int → Nat) (own : Nat → Nat → Int) : Prop where
  lenC : cs.length = l.length
  lenA : ats.length = l.length
  start : ∀ k, k < N → own 0 k = 0
  step : ∀ i a c t, l[i]? = some a → cs[i]? = some c → ats[i]? = some t → ApStep N rd wd i (own i) (own (i + 1)) a c t
  lens : ∀ b ∈ fr, 1 ≤ b.2 ∧ b.1 + b.2 ≤ N
  dis : fr.Pairwise fun b c => ∀ k, b.1 ≤ k → k < b.1 + b.2 → ¬ (c.1 ≤ k ∧ k < c.1 + c.2)
  free : ∀ b ∈ fr, ∀ k, b.1 ≤ k → k < b.1 + b.2 → own l.length k = 0
  all : ∀ k, k < N → own l.length k = 0 → InB fr k
def inBb (fr : List (Nat × Nat)) (k : Nat) : Bool := fr.any fun b => decide (b.1 ≤ k ∧ k < b.1 + b.2)
theorem inBb_iff (fr : List (Nat × Nat)) (k : Nat) : inBb fr k = true ↔ InB fr k := by
  unfold inBb InB
  simp
/-- The free words of the first blocks are marked. -/
def mkF (f : Nat → Int) (fr : List (Nat × Nat)) (k : Nat) : Int := if inBb fr k = true then -1 else f k
theorem mkF_succ {f : Nat → Int} {fr : List (Nat × Nat)} {m : Nat} {b : Nat × Nat} (hb : fr[m]? = some b) (k : Nat) : (if b.1 ≤ k ∧ k < b.1 + b.2 then -1 else mkF f (fr.take m) k) = mkF f (fr.take (m + 1)) k := by
  unfold mkF inBb
  rw [take_succ_some _ _ _ hb, List.any_append]
  by_cases h : b.1 ≤ k ∧ k < b.1 + b.2
  · simp [h]
  · rw [if_neg h]
    simp only [List.any_cons, List.any_nil, decide_eq_false h, Bool.or_false]
theorem mkF_new {f : Nat → Int} {fr : List (Nat × Nat)} {m : Nat} {b : Nat × Nat} (hd : fr.Pairwise fun b c => ∀ k, b.1 ≤ k → k < b.1 + b.2 → ¬ (c.1 ≤ k ∧ k < c.1 + c.2)) (hb : fr[m]? = some b) {k : Nat} (h1 : b.1 ≤ k) (h2 : k < b.1 + b.2) : mkF f (fr.take m) k = f k := by
  unfold mkF
  rw [if_neg]
  rw [inBb_iff]
  rintro ⟨x, hx, h3, h4⟩
  obtain ⟨i, hi⟩ := List.mem_iff_getElem?.1 hx
  have him : i < m := by have := (List.getElem?_eq_some_iff.1 hi).1; rw [List.length_take] at this; omega
  rw [List.getElem?_take, if_pos him] at hi
  obtain ⟨hi1, hi2⟩ := List.getElem?_eq_some_iff.1 hi
  obtain ⟨hm1, hm2⟩ := List.getElem?_eq_some_iff.1 hb
  have := List.pairwise_iff_getElem.1 hd i m hi1 hm1 him k
  rw [hi2, hm2] at this
  exact this h3 h4 ⟨h1, h2⟩
def ownA (b6 g : Nat) (cv av fv : Value) (N : Nat) (f : Nat → Int) : List Ent := [rowI 3 (.slice (some ⟨g, 0, none⟩) N N) (fl N f), ebox b6 #[cv, av, fv] 27]
set_option maxRecDepth 100000 in
set_option maxHeartbeats 4000000 in
theorem apart_any (N : Nat) (hN1 : 1 ≤ N) (hN2 : N ≤ 256) (v cv av fv : Value) (l : List (Int × Int)) (cs ats : List Int) (fr : List (Nat × Nat)) (rd : Bool) (wd : Int → Nat) (own : Nat → Nat → Int) (w : World) (hA : ApartOk N l cs ats fr rd wd own) (hl100 : l.length ≤ 100)
    (hl : IsTup 2 encA w v l) (hC : IsInts w cv cs) (hT : IsInts w av ats) (hF : IsTup 2 encB w fv fr) (hfl : fr.length ≤ 256)
    (hpow : rd = true → ∀ (x : Int) (X : World), Calls Try.prog 21 #[.int .i64 x] X fun e w' => e = .returned (.int .i64 (wd x : Int)) ∧ X = w') :
    Calls Try.prog 15 #[.int .i64 (N : Int), v, .agg #[cv, av, fv], .bool rd] w fun e w' => e = .returned (.bool true) ∧ Below w.heap.size w w' := by
  have hM0 := Lib.hid ((Mem.start w).alloc #[cv, av, fv] 27)
  have HA := Lib.hid hA
  have HL := Lib.hid hl
  have HC := Lib.hid hC
  have HT := Lib.hid hT
  have HF := Lib.hid hF
  have HPW := Lib.hid hpow
  obtain ⟨al, cl, rfl, _⟩ := hl.slice
  obtain ⟨aC, cC, rfl, _⟩ := hC.slice
  obtain ⟨aT, cT, rfl, _⟩ := hT.slice
  obtain ⟨aF, cF, rfl, _⟩ := hF.slice
  rw [hA.lenC] at HC hM0 ⊢
  rw [hA.lenA] at HT hM0 ⊢
  obtain ⟨n, hn⟩ : ∃ n, l.length = n := ⟨_, rfl⟩
  obtain ⟨nf, hnf⟩ : ∃ nf, fr.length = nf := ⟨_, rfl⟩
  rw [hnf] at hfl hM0 HF ⊢
  rw [hn] at hl100 hM0 HC HT HL ⊢
  have Hn := Lib.hid hn
  have Hnf := Lib.hid hnf
  have q0 : ((n : Int) != (n : Int)) = false := by simp
  obtain ⟨b6, hb6⟩ : ∃ b6, w.heap.size = b6 := ⟨_, rfl⟩
  have Hb6 := Lib.hid hb6
  clear hA hl hC hT hF hpow hn hnf hb6
  go_enter Try.func15, Try.ntmps15
  go_wp2_with (at_make; refine Mem.wp_makeI elemInts rfl _ _ rfl hM0.out _ _ N rfl rfl rfl rfl (by omega) ?_; intro w1 hM1 hb1)
  have hbase : Mem w.heap.size w w1 (ownA b6 (b6 + 1) (.slice aC n cC) (.slice aT n cT) (.slice aF nf cF) N (own 0)) := by
    refine hM1.cast ?_
    unfold ownA
    rw [fl_congr (f := own 0) (g := fun _ => 0) HA.out.start, ← fl_rep, ← Hb6.out]
    simp
  rw [Hb6.out]
  have HM1 := Lib.hid hbase
  clear hM1 hM0 hb1 hbase
  go_loopw [40] (fun i wr => ∃ k : Nat, k ≤ n ∧ i = .int .i64 (k : Int) ∧ Mem w.heap.size w wr (ownA b6 (b6 + 1) (.slice aC n cC) (.slice aT n cT) (.slice aF nf cF) N (own k))) (fun i _ => n - (intOf i).toNat)
  case atStart => exact ⟨0, Nat.zero_le _, rfl, HM1.out⟩
  case round =>
    clear HM1
    obtain ⟨k, hk, rfl, hM⟩ := hrel
    have e0 : wr.cell? ⟨b6, 0, none⟩ = some (.slice aC n cC) := by have := hM.cell 1 rfl 0; simpa using this
    have e1 : wr.cell? ⟨b6, 1, none⟩ = some (.slice aT n cT) := by have := hM.cell 1 rfl 1; simpa using this
    have e2 : wr.cell? ⟨b6, 2, none⟩ = some (.slice aF nf cF) := by have := hM.cell 1 rfl 2; simpa using this
    have ez : b6 < wr.heap.size := (hM.box 1 rfl).2.1
    by_cases hlt : k < n
    · obtain ⟨a, ha⟩ := get_some l k (by rw [Hn.out]; exact hlt)
      obtain ⟨c, hc⟩ := get_some cs k (by rw [HA.out.lenC, Hn.out]; exact hlt)
      obtain ⟨t, ht⟩ := get_some ats k (by rw [HA.out.lenA, Hn.out]; exact hlt)
      obtain ⟨ba, oa, ca, hva, _, za, hca⟩ := HL.out.at hM.below ha
      obtain ⟨bc, oc, cc, hvc, _, zc, hcc, _⟩ := HC.out.at hM.below hc
      obtain ⟨bt, ot, ct, hvt, _, zt, hct, ht64⟩ := HT.out.at hM.below ht
      rw [Hn.out] at hva
      rw [HA.out.lenC, Hn.out] at hvc
      rw [HA.out.lenA, Hn.out] at hvt
      cases hva
      cases hvc
      cases hvt
      have a0 := hca 0 _ rfl
      have a1 := hca 1 _ rfl
      rw [Nat.add_zero] at a0
      have hst := HA.out.step k a c t ha hc ht
      have HM := Lib.hid (hM.alloc_ (.cells #[.int .i64 a.1, .int .i64 a.2] 36))
      have HMr := Lib.hid hM
      have wgz : b6 + 1 < wr.heap.size := ((hM.row 0 rfl).lt (b6 + 1) rfl).2
      clear hM hca ha hc ht
      rcases hst with ⟨hc0, hsame⟩ | ⟨rfl, hk2, p, hp, hpN, hf0, hg⟩ | ⟨rfl, hk2, at_, m, rfl, hwd, hrd, hm1, hmN, hmod, hz, hg⟩
      · have qc : (c != 0) = true := by simpa using hc0
        have HS := Lib.hid (fl_congr hsame)
        clear hc0 hsame
        go_wp2
        go_roundw
        case rel => exact ⟨k + 1, by omega, by go_num, HM.out.cast (by unfold ownA; rw [HS.out])⟩
        case measure => simp [intOf]; omega
      · obtain ⟨f, hf⟩ : ∃ f, own k = f := ⟨_, rfl⟩
        rw [hf] at hf0 hg HM HMr
        obtain ⟨Wx, hWx⟩ : ∃ Wx, wr.alloc (.cells #[.int .i64 a.1, .int .i64 a.2] 36) = Wx := ⟨_, rfl⟩
        obtain ⟨bx, hbx⟩ : ∃ bx, wr.heap.size = bx := ⟨_, rfl⟩
        have x0 : Wx.cell? ⟨bx, 0, none⟩ = some (.int .i64 a.1) := by rw [← hWx, ← hbx]; simp
        have x1 : Wx.cell? ⟨bx, 1, none⟩ = some (.int .i64 a.2) := by rw [← hWx, ← hbx]; simp
        have xz : bx < Wx.heap.size := by rw [← hWx, ← hbx]; simp
        rw [hWx] at HM
        have w0 := (HMr.out.intAt 0 rfl (fl_get f hpN)).1
        obtain ⟨mine, hmine⟩ : ∃ mine, f p = mine := ⟨_, rfl⟩
        rw [hmine] at hf0 w0
        have HG : Hid (fl N (own (k + 1)) = fl N (fun q => if q < N ∧ f q = mine then 0 else f q)) := Lib.hid (fl_congr fun q hq => by rw [hg q hq, hmine]; simp [hq])
        have HS0 : Hid (fl N f = fl N (fun q => if q < 0 ∧ f q = mine then 0 else f q)) := Lib.hid (fl_congr fun q _ => by rw [if_neg (fun h => absurd h.1 (by omega))])
        rw [hk2] at a0 x0 hWx
        rw [hp] at a1 x1 hWx
        have HWx := Lib.hid hWx
        have Hbx := Lib.hid hbx
        have q1 : decide ((p : Int) < 0) = false := decide_eq_false (by omega)
        have q2 : decide ((p : Int) ≥ (N : Int)) = false := decide_eq_false (by omega)
        have q2n : decide (N ≤ p) = false := decide_eq_false (by omega)
        have q3 : (mine == 0) = false := by simpa using hf0
        have q4 : (p : Int) < (N : Int) := by omega
        have q5 : (0 : Int) ≤ (p : Int) := by omega
        clear hf hg hmine hk2 hp hWx hbx hf0 HMr
        go_wp2_with fail
        rw [HWx.out, Hbx.out]
        obtain ⟨wo, rfl⟩ : ∃ wo : World, wo = wr := ⟨_, rfl⟩
        clear e0 e1 e2 ez a0 a1 x0 x1 xz w0 za zc zt wgz HWx Hbx
        go_loopw [14] (fun i w4 => ∃ j : Nat, j ≤ N ∧ i = .int .i64 (j : Int) ∧ Mem w.heap.size w w4 (ownA b6 (b6 + 1) (.slice (some ⟨bc, oc, none⟩) n cC) (.slice (some ⟨bt, ot, none⟩) n cT) (.slice aF nf cF) N (fun q => if q < j ∧ f q = mine then 0 else f q))) (fun i _ => N - (intOf i).toNat)
        case atStart => exact ⟨0, Nat.zero_le _, rfl, HM.out.cast (by unfold ownA; rw [HS0.out])⟩
        case round =>
          clear HM HS0
          obtain ⟨j, hj, rfl, hM⟩ := hrel
          by_cases hjl : j < N
          · obtain ⟨d0, f0⟩ := hM.intAt 0 rfl (fl_get _ hjl)
            have hz : b6 + 1 < wr.heap.size := ((hM.row 0 rfl).lt (b6 + 1) rfl).2
            simp only [Nat.lt_irrefl, false_and, if_false] at d0
            have r1 : (j : Int) < (N : Int) := by omega
            by_cases he : f j = mine
            · have qe : (f j == mine) = true := beq_iff_eq.2 he
              have hS : fl N (fun q => if q = j then 0 else if q < j ∧ f q = mine then 0 else f q) = fl N (fun q => if q < j + 1 ∧ f q = mine then 0 else f q) := fl_congr fun q _ => by
                by_cases h1 : q = j
                · subst h1; rw [if_pos rfl, if_pos ⟨Nat.lt_succ_self _, he⟩]
                · rw [if_neg h1]
                  by_cases h2 : q < j ∧ f q = mine
                  · rw [if_pos h2, if_pos ⟨by omega, h2.2⟩]
                  · rw [if_neg h2, if_neg (fun h => h2 ⟨by omega, h.2⟩)]
              have hM5 := hM.setI 0 rfl (fl_len _ _) j 0
              rw [fl_set, hS] at hM5
              have HM5 := Lib.hid hM5
              clear hM hM5 hS he
              go_wp2
              go_roundw
              case rel => exact ⟨j + 1, by omega, by go_num, HM5.out⟩
              case measure => simp [intOf]; omega
            · have qe : (f j == mine) = false := beq_eq_false_iff_ne.2 he
              have hS : fl N (fun q => if q < j ∧ f q = mine then 0 else f q) = fl N (fun q => if q < j + 1 ∧ f q = mine then 0 else f q) := fl_congr fun q _ => by
                by_cases h2 : q < j ∧ f q = mine
                · rw [if_pos h2, if_pos ⟨by omega, h2.2⟩]
                · rw [if_neg h2, if_neg (fun h => h2 ⟨by rcases Nat.lt_or_ge q j with h5 | h5; exact h5; exact absurd h.2 (by rw [show q = j by omega]; exact he), h.2⟩)]
              have HM5 := Lib.hid (hM.cast (L' := ownA b6 (b6 + 1) (.slice (some ⟨bc, oc, none⟩) n cC) (.slice (some ⟨bt, ot, none⟩) n cT) (.slice aF nf cF) N (fun q => if q < j + 1 ∧ f q = mine then 0 else f q)) (by unfold ownA; rw [hS]))
              clear hM hS he
              go_wp2
              go_roundw
              case rel => exact ⟨j + 1, by omega, by go_num, HM5.out⟩
              case measure => simp [intOf]; omega
          · obtain rfl : j = N := by omega
            have HM5 := Lib.hid hM
            clear hM
            go_wp2
            go_roundw
            case rel => exact ⟨k + 1, by omega, by go_num, HM5.out.cast (by unfold ownA; rw [HG.out])⟩
            case measure => simp [intOf]; omega
      · obtain ⟨f, hf⟩ : ∃ f, own k = f := ⟨_, rfl⟩
        rw [hf] at hz hg HM
        obtain ⟨Wx, hWx⟩ : ∃ Wx, wr.alloc (.cells #[.int .i64 a.1, .int .i64 a.2] 36) = Wx := ⟨_, rfl⟩
        obtain ⟨bx, hbx⟩ : ∃ bx, wr.heap.size = bx := ⟨_, rfl⟩
        rw [hWx] at HM
        have qk2 : (a.1 == 2) = false := beq_eq_false_iff_ne.2 hk2
        have HG : Hid (fl N (own (k + 1)) = fl N (fun q => if at_ ≤ q ∧ q < at_ + m then (k : Int) + 1 else f q)) := Lib.hid (fl_congr hg)
        have HS0 : Hid (fl N f = fl N (fun q => if at_ ≤ q ∧ q < at_ then (k : Int) + 1 else f q)) := Lib.hid (fl_congr fun q _ => by rw [if_neg (by omega)])
        have HZ := Lib.hid hz
        have HWx := Lib.hid hWx
        have Hbx := Lib.hid hbx
        have q1 : decide ((m : Int) < 1) = false := decide_eq_false (by omega)
        have q1n : decide (m < 1) = false := decide_eq_false (by omega)
        have q2 : decide ((at_ : Int) < 0) = false := decide_eq_false (by omega)
        have q3 : IntKind.i64.wrap ((N : Int) - (m : Int)) = (N : Int) - (m : Int) := by rw [IntKind.wrap_i64]; omega
        have q4 : decide ((at_ : Int) > (N : Int) - (m : Int)) = false := decide_eq_false (by omega)
        have Hmod := Lib.hid hmod
        have Hhwd := Lib.hid hwd
        have Hhrd := Lib.hid hrd
        clear hf hg hz hWx hbx hk2 HMr hmod hwd hrd
        cases rd with
        | false =>
          have h2 := Hhrd.out rfl
          rw [h2] at a1 HWx
          go_wp2_with fail
          rw [HWx.out, Hbx.out]
          obtain ⟨wo, rfl⟩ : ∃ wo : World, wo = wr := ⟨_, rfl⟩
          clear e0 e1 e2 ez a0 a1 za zc zt wgz HWx Hbx
          go_loopw [16] (fun i w4 => ∃ j : Nat, at_ ≤ j ∧ j ≤ at_ + m ∧ i = .int .i64 (j : Int) ∧ Mem w.heap.size w w4 (ownA b6 (b6 + 1) (.slice (some ⟨bc, oc, none⟩) n cC) (.slice (some ⟨bt, ot, none⟩) n cT) (.slice aF nf cF) N (fun q => if at_ ≤ q ∧ q < j then (k : Int) + 1 else f q))) (fun i _ => at_ + m - (intOf i).toNat)
          case atStart => exact ⟨at_, Nat.le_refl _, by omega, rfl, HM.out.cast (by unfold ownA; rw [HS0.out])⟩
          case round =>
            clear HM HS0
            obtain ⟨j, hj0, hj, rfl, hM⟩ := hrel
            by_cases hjl : j < at_ + m
            · have hjN : j < N := by omega
              obtain ⟨d0, f0⟩ := hM.intAt 0 rfl (fl_get _ hjN)
              have hz : b6 + 1 < wr.heap.size := ((hM.row 0 rfl).lt (b6 + 1) rfl).2
              simp only [Nat.lt_irrefl, and_false, if_false] at d0
              rw [HZ.out j hj0 hjl] at d0
              have r1 : (j : Int) < (N : Int) := by omega
              have r2 : (j : Int) < (at_ : Int) + (m : Int) := by omega
              have hS : fl N (fun q => if q = j then (k : Int) + 1 else if at_ ≤ q ∧ q < j then (k : Int) + 1 else f q) = fl N (fun q => if at_ ≤ q ∧ q < j + 1 then (k : Int) + 1 else f q) := fl_congr fun q _ => by
                by_cases h1 : q = j
                · subst h1; rw [if_pos rfl, if_pos ⟨hj0, Nat.lt_succ_self _⟩]
                · rw [if_neg h1]
                  by_cases h2 : at_ ≤ q ∧ q < j
                  · rw [if_pos h2, if_pos ⟨h2.1, by omega⟩]
                  · rw [if_neg h2, if_neg (fun h => h2 ⟨h.1, by omega⟩)]
              have hM5 := hM.setI 0 rfl (fl_len _ _) j ((k : Int) + 1)
              rw [fl_set, hS] at hM5
              have HM5 := Lib.hid hM5
              clear hM hM5 hS
              go_wp2
              go_roundw
              case rel => exact ⟨j + 1, by omega, by omega, by go_num, HM5.out⟩
              case measure => simp [intOf]; omega
            · obtain rfl : j = at_ + m := by omega
              have HM5 := Lib.hid hM
              clear hM
              go_wp2
              go_roundw
              case rel => exact ⟨k + 1, by omega, by go_num, HM5.out.cast (by unfold ownA; rw [HG.out])⟩
              case measure => simp [intOf]; omega
        | true =>
          have hpw := HPW.out rfl a.2
          rw [Hhwd.out] at hpw
          have HPx := Lib.hid hpw
          have qm := Hmod.out rfl
          clear hpw
          go_wp2_with fail
          with_reducible refine (HPx.out _).mono ?_
          rintro e w4 ⟨rfl, rfl⟩
          go_wp2_with fail
          rw [HWx.out, Hbx.out]
          obtain ⟨wo, rfl⟩ : ∃ wo : World, wo = wr := ⟨_, rfl⟩
          clear e0 e1 e2 ez a0 a1 za zc zt wgz HWx Hbx
          go_loopw [16] (fun i w4 => ∃ j : Nat, at_ ≤ j ∧ j ≤ at_ + m ∧ i = .int .i64 (j : Int) ∧ Mem w.heap.size w w4 (ownA b6 (b6 + 1) (.slice (some ⟨bc, oc, none⟩) n cC) (.slice (some ⟨bt, ot, none⟩) n cT) (.slice aF nf cF) N (fun q => if at_ ≤ q ∧ q < j then (k : Int) + 1 else f q))) (fun i _ => at_ + m - (intOf i).toNat)
          case atStart => exact ⟨at_, Nat.le_refl _, by omega, rfl, HM.out.cast (by unfold ownA; rw [HS0.out])⟩
          case round =>
            clear HM HS0
            obtain ⟨j, hj0, hj, rfl, hM⟩ := hrel
            by_cases hjl : j < at_ + m
            · have hjN : j < N := by omega
              obtain ⟨d0, f0⟩ := hM.intAt 0 rfl (fl_get _ hjN)
              have hz : b6 + 1 < wr.heap.size := ((hM.row 0 rfl).lt (b6 + 1) rfl).2
              simp only [Nat.lt_irrefl, and_false, if_false] at d0
              rw [HZ.out j hj0 hjl] at d0
              have r1 : (j : Int) < (N : Int) := by omega
              have r2 : (j : Int) < (at_ : Int) + (m : Int) := by omega
              have hS : fl N (fun q => if q = j then (k : Int) + 1 else if at_ ≤ q ∧ q < j then (k : Int) + 1 else f q) = fl N (fun q => if at_ ≤ q ∧ q < j + 1 then (k : Int) + 1 else f q) := fl_congr fun q _ => by
                by_cases h1 : q = j
                · subst h1; rw [if_pos rfl, if_pos ⟨hj0, Nat.lt_succ_self _⟩]
                · rw [if_neg h1]
                  by_cases h2 : at_ ≤ q ∧ q < j
                  · rw [if_pos h2, if_pos ⟨h2.1, by omega⟩]
                  · rw [if_neg h2, if_neg (fun h => h2 ⟨h.1, by omega⟩)]
              have hM5 := hM.setI 0 rfl (fl_len _ _) j ((k : Int) + 1)
              rw [fl_set, hS] at hM5
              have HM5 := Lib.hid hM5
              clear hM hM5 hS
              go_wp2
              go_roundw
              case rel => exact ⟨j + 1, by omega, by omega, by go_num, HM5.out⟩
              case measure => simp [intOf]; omega
            · obtain rfl : j = at_ + m := by omega
              have HM5 := Lib.hid hM
              clear hM
              go_wp2
              go_roundw
              case rel => exact ⟨k + 1, by omega, by go_num, HM5.out.cast (by unfold ownA; rw [HG.out])⟩
              case measure => simp [intOf]; omega
    · obtain rfl : k = n := by omega
      have HM := Lib.hid hM
      have hS0 : fl N (own k) = fl N (mkF (own k) (fr.take 0)) := fl_congr fun q _ => by simp [mkF, inBb]
      have HS0 := Lib.hid hS0
      have HFA : Hid (∀ q, q < N → own k q = 0 → InB fr q) := fun q hq h => HA.out.all q hq (by rw [Hn.out]; exact h)
      have HFR : Hid (∀ b ∈ fr, ∀ q, b.1 ≤ q → q < b.1 + b.2 → own k q = 0) := fun b hb q h1 h2 => by have := HA.out.free b hb q h1 h2; rw [Hn.out] at this; exact this
      obtain ⟨f, hf⟩ : ∃ f, own k = f := ⟨_, rfl⟩
      rw [hf] at HS0 HM HFA HFR
      clear hM hS0 hf
      obtain ⟨wo, rfl⟩ : ∃ wo : World, wo = wr := ⟨_, rfl⟩
      go_wp2
      clear e0 e1 e2 ez
      go_loopw [145] (fun i w4 => ∃ m : Nat, m ≤ nf ∧ i = .int .i64 (m : Int) ∧ Mem w.heap.size w w4 (ownA b6 (b6 + 1) (.slice aC k cC) (.slice aT k cT) (.slice aF nf cF) N (mkF f (fr.take m)))) (fun i _ => nf - (intOf i).toNat)
      case atStart => exact ⟨0, Nat.zero_le _, rfl, HM.out.cast (by unfold ownA; rw [HS0.out])⟩
      case round =>
        clear HM HS0
        obtain ⟨m, hm, rfl, hM⟩ := hrel
        by_cases hmlt : m < nf
        · obtain ⟨b, hb⟩ := get_some fr m (by rw [Hnf.out]; exact hmlt)
          obtain ⟨bb, ob, cb, hvb, _, zb, hcb⟩ := HF.out.at hM.below hb
          rw [Hnf.out] at hvb
          cases hvb
          have b0 := hcb 0 _ rfl
          have b1 := hcb 1 _ rfl
          rw [Nat.add_zero] at b0
          obtain ⟨hb1, hb2⟩ := HA.out.lens b (List.mem_of_getElem? hb)
          have HM := Lib.hid (hM.alloc_ (.cells #[.int .i64 (b.1 : Int), .int .i64 (b.2 : Int)] 34))
          obtain ⟨Wx, hWx⟩ : ∃ Wx, wr.alloc (.cells #[.int .i64 (b.1 : Int), .int .i64 (b.2 : Int)] 34) = Wx := ⟨_, rfl⟩
          obtain ⟨bx, hbx⟩ : ∃ bx, wr.heap.size = bx := ⟨_, rfl⟩
          rw [hWx] at HM
          have x0 : Wx.cell? ⟨bx, 0, none⟩ = some (.int .i64 (b.1 : Int)) := by rw [← hWx, ← hbx]; simp
          have x1 : Wx.cell? ⟨bx, 1, none⟩ = some (.int .i64 (b.2 : Int)) := by rw [← hWx, ← hbx]; simp
          have xz : bx < Wx.heap.size := by rw [← hWx, ← hbx]; simp
          have hax : ∀ y ∈ ownA b6 (b6 + 1) (.slice aC k cC) (.slice aT k cT) (.slice (some ⟨bb, ob, none⟩) nf cF) N (mkF f (fr.take m)), (ebox bx #[.int .i64 (b.1 : Int), .int .i64 (b.2 : Int)] 34).apart y := fun y hy c e e2 => by cases e; have := (hM.lt hy _ e2).2; omega
          have hME : Mem w.heap.size w Wx (ebox bx #[.int .i64 (b.1 : Int), .int .i64 (b.2 : Int)] 34 :: ownA b6 (b6 + 1) (.slice aC k cC) (.slice aT k cT) (.slice (some ⟨bb, ob, none⟩) nf cF) N (mkF f (fr.take m))) := by
            have := hM.allocAt bx hbx #[.int .i64 (b.1 : Int), .int .i64 (b.2 : Int)] 34
            rw [hWx] at this; exact this
          have HME := Lib.hid hME
          have HZ : Hid (∀ q, b.1 ≤ q → q < b.1 + b.2 → mkF f (fr.take m) q = 0) := fun q h1 h2 => by rw [mkF_new HA.out.dis hb h1 h2]; exact HFR.out b (List.mem_of_getElem? hb) q h1 h2
          have HG : Hid (fl N (fun q => if b.1 ≤ q ∧ q < b.1 + b.2 then -1 else mkF f (fr.take m) q) = fl N (mkF f (fr.take (m + 1)))) := Lib.hid (fl_congr fun q _ => mkF_succ hb q)
          obtain ⟨h, hh⟩ : ∃ h, mkF f (fr.take m) = h := ⟨_, rfl⟩
          rw [hh] at HME HZ HG
          have HS0 : Hid (fl N h = fl N (fun q => if b.1 ≤ q ∧ q < b.1 then -1 else h q)) := Lib.hid (fl_congr fun q _ => by rw [if_neg (by omega)])
          have q1 : decide ((b.2 : Int) < 1) = false := decide_eq_false (by omega)
          have q1n : decide (b.2 < 1) = false := decide_eq_false (by omega)
          have q2 : decide ((b.1 : Int) < 0) = false := decide_eq_false (by omega)
          have q3 : decide ((b.2 : Int) > (N : Int)) = false := decide_eq_false (by omega)
          have q3n : decide (N < b.2) = false := decide_eq_false (by omega)
          have q4 : IntKind.i64.wrap ((N : Int) - (b.2 : Int)) = (N : Int) - (b.2 : Int) := by rw [IntKind.wrap_i64]; omega
          have q5 : decide ((b.1 : Int) > (N : Int) - (b.2 : Int)) = false := decide_eq_false (by omega)
          have HWx := Lib.hid hWx
          have Hbx := Lib.hid hbx
          clear hM hcb hb hWx hbx hax hME hh HM
          go_wp2
          rw [HWx.out, Hbx.out]
          obtain ⟨wo2, rfl⟩ : ∃ wo2 : World, wo2 = wr := ⟨_, rfl⟩
          clear b0 b1 zb HWx Hbx x0 x1 xz
          go_loopw [19] (fun i w4 => ∃ j : Nat, b.1 ≤ j ∧ j ≤ b.1 + b.2 ∧ i = .int .i64 (j : Int) ∧ Mem w.heap.size w w4 (ebox bx #[.int .i64 (b.1 : Int), .int .i64 (b.2 : Int)] 34 :: ownA b6 (b6 + 1) (.slice aC k cC) (.slice aT k cT) (.slice (some ⟨bb, ob, none⟩) nf cF) N (fun q => if b.1 ≤ q ∧ q < j then -1 else h q))) (fun i _ => b.1 + b.2 - (intOf i).toNat)
          case atStart => exact ⟨b.1, Nat.le_refl _, by omega, rfl, HME.out.cast (by unfold ownA; rw [HS0.out])⟩
          case round =>
            clear HME HS0
            obtain ⟨j, hj0, hj, rfl, hM⟩ := hrel
            have y0 : wr.cell? ⟨bx, 0, none⟩ = some (.int .i64 (b.1 : Int)) := by have := hM.cell 0 rfl 0; simpa using this
            have y1 : wr.cell? ⟨bx, 1, none⟩ = some (.int .i64 (b.2 : Int)) := by have := hM.cell 0 rfl 1; simpa using this
            have yz : bx < wr.heap.size := (hM.box 0 rfl).2.1
            by_cases hjl : j < b.1 + b.2
            · have hjN : j < N := by omega
              obtain ⟨d0, f0⟩ := hM.intAt 1 rfl (fl_get _ hjN)
              have hz : b6 + 1 < wr.heap.size := ((hM.row 1 rfl).lt (b6 + 1) rfl).2
              simp only [Nat.lt_irrefl, and_false, if_false] at d0
              rw [HZ.out j hj0 hjl] at d0
              have r1 : (j : Int) < (N : Int) := by omega
              have r2 : (j : Int) < (b.1 : Int) + (b.2 : Int) := by omega
              have hS : fl N (fun q => if q = j then -1 else if b.1 ≤ q ∧ q < j then -1 else h q) = fl N (fun q => if b.1 ≤ q ∧ q < j + 1 then -1 else h q) := fl_congr fun q _ => by
                by_cases h1 : q = j
                · subst h1; rw [if_pos rfl, if_pos ⟨hj0, Nat.lt_succ_self _⟩]
                · rw [if_neg h1]
                  by_cases h2 : b.1 ≤ q ∧ q < j
                  · rw [if_pos h2, if_pos ⟨h2.1, by omega⟩]
                  · rw [if_neg h2, if_neg (fun h => h2 ⟨h.1, by omega⟩)]
              have hM5 := hM.setI 1 rfl (fl_len _ _) j (-1)
              rw [fl_set, hS] at hM5
              have HM5 := Lib.hid hM5
              clear hM hM5 hS
              go_wp2
              go_roundw
              case rel => exact ⟨j + 1, by omega, by omega, by go_num, HM5.out⟩
              case measure => simp [intOf]; omega
            · obtain rfl : j = b.1 + b.2 := by omega
              have HM5 := Lib.hid (hM.drop (List.sublist_cons_self _ _))
              have r2 : ¬ ((b.1 : Int) + (b.2 : Int)) < (b.1 : Int) + (b.2 : Int) := by omega
              clear hM
              go_wp2
              go_roundw
              case rel => exact ⟨m + 1, by omega, by go_num, HM5.out.cast (by unfold ownA; rw [HG.out])⟩
              case measure => simp [intOf]; omega
        · obtain rfl : m = nf := by omega
          have HM := Lib.hid hM
          have HNZ : Hid (∀ q, q < N → mkF f (fr.take m) q ≠ 0) := fun q hq => by
            rw [show fr.take m = fr by rw [← Hnf.out, List.take_length]]
            unfold mkF
            split
            · decide
            · rename_i h1
              intro h2
              exact h1 ((inBb_iff fr q).2 (HFA.out q hq h2))
          obtain ⟨h, hh⟩ : ∃ h, mkF f (fr.take m) = h := ⟨_, rfl⟩
          rw [hh] at HM HNZ
          clear hM hh
          obtain ⟨wo2, rfl⟩ : ∃ wo2 : World, wo2 = wr := ⟨_, rfl⟩
          go_wp2
          go_loop [194] (fun i => ∃ j : Nat, j ≤ N ∧ i = .int .i64 (j : Int)) (fun i => N - (intOf i).toNat)
          case atStart => exact ⟨0, Nat.zero_le _, rfl⟩
          case round =>
            obtain ⟨j, hj, rfl⟩ := hrel
            by_cases hjl : j < N
            · obtain ⟨d0, f0⟩ := HM.out.intAt 0 rfl (fl_get _ hjl)
              have hz : b6 + 1 < wo2.heap.size := ((HM.out.row 0 rfl).lt (b6 + 1) rfl).2
              have qz : (h j == 0) = false := beq_eq_false_iff_ne.2 (HNZ.out j hjl)
              go_wp2
              go_round
              case rel => exact ⟨j + 1, by omega, by go_num⟩
              case measure => simp [intOf]; omega
            · obtain rfl : j = N := by omega
              go_wp2
              go_ret
              exact ⟨rfl, HM.out.below⟩
end Go.Proofs.Ytmbcfbehchpfbaa
