/- mark.Sweep's closure, walked. -/
import Derived.Test.YtigdpdndnghldaaAj
import Derived.Test.YtigdpdndnghldaaAk
import Derived.Deep.QuietTactic
import Derived.Deep.RegionHeld3
namespace Go.Proofs.Ytigdpdndnghldaa
open Go.RowKit Go.Shelf

attribute [local go_sem ↓] Go.wp_at_zero Go.wp_at_succ
theorem elemBlocks : Elem Try.prog 26 31 2 16 (.agg #[.int .i64 0, .int .i64 0]) := ⟨by kernel_rfl, info_parts (by kernel_rfl), rfl, by decide⟩
def encB (p : Int × Int) : List Value := [.int .i64 p.1, .int .i64 p.2]
theorem encB_len (p : Int × Int) : (encB p).length = 2 := rfl
theorem encB_set : ∀ (l : List (Int × Int)) (i : Nat) (p : Int × Int) (y : Int), l[i]? = some p → (l.flatMap encB).set (i * 2 + 1) (.int .i64 y) = (l.set i (p.1, y)).flatMap encB
  | [], i, p, y, h => by simp at h
  | q :: l, 0, p, y, h => by simp at h; subst h; rfl
  | q :: l, i + 1, p, y, h => by
    have := encB_set l i p y (by simpa using h)
    rw [List.flatMap_cons, show (i + 1) * 2 + 1 = i * 2 + 1 + 1 + 1 by omega]
    show .int .i64 q.1 :: .int .i64 q.2 :: (l.flatMap encB).set (i * 2 + 1) (.int .i64 y) = _
    rw [this]; rfl
def ownSw (b5 : Nat) (os : List Ob) (lv : Value) : List Ent := [ebox b5 #[lv] 26, rowT 31 2 encB lv (swp os)]
set_option maxRecDepth 100000 in
set_option maxHeartbeats 1000000 in
theorem sweep1_any (w0 wr : World) (b5 : Nat) (ws : List Int) (hsm : ws.length ≤ 256) (os : List Ob) (lv : Value) (n : Int) (fs : List Int) (k : Nat) (L' : List Ent)
    (hP : Part ws os k) (hfit : k + 1 + fs.length ≤ ws.length) (hh : isHead n) (hfl : (fs.length : Int) = n % 256) (hM : Mem w0.heap.size w0 wr (ownSw b5 os lv ++ L')) :
    Calls Try.prog 41 (#[.int .i64 k, headV n] ++ #[.pointer (some ⟨b5, 0, none⟩)]) wr fun e w' => e = .returned (.bool true) ∧ ∃ lv', Mem w0.heap.size w0 w' (ownSw b5 (os ++ [(n, fs)]) lv' ++ L') := by
  have hkk : k = (flat os).length := by obtain ⟨_, _, _, h⟩ := hP; exact h
  have hI := swp_inv os
  have hcnt : os.length ≤ 256 := by
    have h1 : os.length ≤ (flat os).length := (Laid.count (ws := flat os) (os := os) ⟨rfl, by obtain ⟨_, _, h, _⟩ := hP; exact h⟩)
    have h2 := hP.le
    omega
  obtain ⟨m, hm⟩ : ∃ m, fs.length = m := ⟨_, rfl⟩
  have hm4 : m ≤ 4 := by have := hh.1; omega
  have hmn : n % 256 = m := by omega
  have hsn : swp (os ++ [(n, fs)]) = sweep1 (swp os) k (n, fs) := by rw [swp_snoc, hkk]
  obtain ⟨l, hl⟩ : ∃ l, swp os = l := ⟨_, rfl⟩
  have hM' : Mem w0.heap.size w0 wr (ebox b5 #[lv] 26 :: rowT 31 2 encB lv l :: L') := hM.cast (by rw [← hl]; rfl)
  rw [hl] at hsn hI
  have hfew := hI.few
  have hbnd : ∀ p ∈ l, 1 ≤ p.2 ∧ 0 ≤ p.1 ∧ p.1 + p.2 ≤ 256 := fun p hp => by
    have h1 := hI.each p hp
    have h2 := hP.le
    omega
  show Calls Try.prog 41 #[.int .i64 k, headV n, .pointer (some ⟨b5, 0, none⟩)] wr _
  rw [headV, hmn]
  obtain ⟨c, hc⟩ : ∃ c, l.length = c := ⟨_, rfl⟩
  obtain ⟨al, cl, hv, _⟩ := (hM'.isTup 1 rfl encB_len (by omega)).slice
  rw [hc] at hv
  subst hv
  have hMa := hM'.alloc #[.int .i64 m, .bool (n / 256 % 2 == 1), .int .i64 (n / 512 % 8)] 35
  have k5 : wr.cell? ⟨b5, 0, none⟩ = some (.slice al c cl) := by have := hM'.cell 0 rfl 0; simpa using this
  have kz : b5 < wr.heap.size := (hM'.box 0 rfl).2.1
  have Hfin : Hid (∀ lv' w', Mem w0.heap.size w0 w' (ebox b5 #[lv'] 26 :: rowT 31 2 encB lv' (sweep1 l k (n, fs)) :: L') → ∃ lv'', Mem w0.heap.size w0 w' (ownSw b5 (os ++ [(n, fs)]) lv'' ++ L')) := Lib.hid (fun lv' w' h => ⟨lv', h.cast (by unfold ownSw; rw [hsn]; rfl)⟩)
  have Hc := Lib.hid hc
  have hc256 : c ≤ 256 := by omega
  have hk256 : k ≤ 256 := by omega
  have hsw : sweep1 l k (n, fs) = if (n / 256 % 2 == 1) = true then l else match l[c - 1]? with
      | some p => if p.1 + p.2 = (k : Int) then l.set (c - 1) (p.1, p.2 + (1 + (m : Int))) else l ++ [((k : Int), 1 + (m : Int))]
      | none => l ++ [((k : Int), 1 + (m : Int))] := by
    unfold sweep1 markB
    simp only [hc, hm]
    rfl
  obtain ⟨mb, hmb⟩ : ∃ mb, (n / 256 % 2 == 1) = mb := ⟨_, rfl⟩
  obtain ⟨ag, hag⟩ : ∃ ag, n / 512 % 8 = ag := ⟨_, rfl⟩
  rw [hmb] at hMa hsw ⊢
  rw [hag] at hMa ⊢
  have HM := Lib.hid hMa
  have Hcn : Hid (l.length ≤ 1000000) := Lib.hid (by omega)
  clear hM hM' hMa hsn hc hm hl hI hfew hcnt hP hh hfl hfit hkk hmn hmb hag
  cases mb with
  | true =>
    have HS : Hid (sweep1 l k (n, fs) = l) := Lib.hid (by rw [hsw, if_pos rfl])
    clear hsw hbnd
    go_enter Try.func41, Try.ntmps41
    go_wp2
    go_ret
    exact ⟨rfl, Hfin.out _ _ (by rw [HS.out]; exact HM.out.drop (List.sublist_cons_self _ _))⟩
  | false =>
    rw [if_neg (by decide)] at hsw
    rcases Nat.eq_zero_or_pos c with hc0 | hc0
    · subst hc0
      have HS : Hid (sweep1 l k (n, fs) = l ++ [((k : Int), 1 + (m : Int))]) := Lib.hid (by rw [hsw, List.getElem?_eq_none (by rw [Hc.out]; exact Nat.zero_le _)])
      clear hsw hbnd
      go_enter Try.func41, Try.ntmps41
      go_wp2
      go_quiet (fail)
      have hM1 := HM.out.drewN nq
      obtain ⟨W1, hW1⟩ : ∃ W1, (wr.alloc (.cells #[.int .i64 m, .bool false, .int .i64 ag] 35)).drewN nq = W1 := ⟨_, rfl⟩
      rw [hW1] at hM1 ⊢
      have x0 : W1.cell? ⟨wr.heap.size, 0, none⟩ = some (.int .i64 m) := by have := hM1.cell 0 rfl 0; simpa using this
      have x5 : W1.cell? ⟨b5, 0, none⟩ = some (.slice al 0 cl) := by have := hM1.cell 1 rfl 0; simpa using this
      have z5 : b5 < W1.heap.size := (hM1.box 1 rfl).2.1
      have zx : wr.heap.size < W1.heap.size := (hM1.box 0 rfl).2.1
      have HM1 := Lib.hid hM1
      clear hM1 hW1 k5 kz HM
      go_wp2_with (at_builtin; refine Mem.wp_appT elemBlocks rfl (.tmp 9) (.tmp 15) rfl HM1.out 2 rfl rfl _ ((k : Int), 1 + (m : Int)) #[.int .i64 k, .int .i64 (1 + (m : Int))] rfl _ _ rfl (by simp) rfl rfl (by decide) Hcn.out ?_; intro ad n6 cp w6 hn6 hM6 hs6 hk6 ha6; have f6 : w6.frozen? ⟨b5, 0, none⟩ = false := hM6.free 1 rfl 0; have c6 : w6.cell? ⟨b5, 0, none⟩ = some (.slice al 0 cl) := (by have := hM6.cell 1 rfl 0; simpa using this))
      go_ret
      exact ⟨rfl, Hfin.out _ _ (by rw [HS.out]; exact (hM6.setBox 1 rfl 0 (.slice ad n6 cp)).drop (List.sublist_cons_self _ _))⟩
    · obtain ⟨n1, hn1⟩ : ∃ n1, c - 1 = n1 := ⟨_, rfl⟩
      obtain ⟨p, hp⟩ := get_some l n1 (by rw [Hc.out]; omega)
      rw [hn1, hp] at hsw
      simp only at hsw
      have hpb := hbnd p (List.mem_of_getElem? hp)
      obtain ⟨g, rfl⟩ : ∃ g, al = some ⟨g, 0, none⟩ := by
        rcases (HM.out.row 2 rfl).2 with ⟨h, _⟩ | ⟨g, cap', cur, h, _⟩
        · cases h; omega
        · cases h; exact ⟨g, rfl⟩
      have t0 := HM.out.tupAt 2 rfl encB_len hp 0 _ rfl
      have t1 := HM.out.tupAt 2 rfl encB_len hp 1 _ rfl
      obtain ⟨d0, _⟩ := t0
      obtain ⟨d1, f1⟩ := t1
      rw [Nat.add_zero] at d0
      have e1 : IntKind.i64.wrap ((c : Int) - 1) = (n1 : Int) := by rw [IntWalk.i64_in _ (by omega)]; omega
      have e2 : n1 < c := by omega
      have e3 : (n1 : Int) < (c : Int) := by omega
      have e4 : IntKind.i64.wrap (p.1 + p.2) = p.1 + p.2 := IntWalk.i64_in _ (by omega)
      obtain ⟨pb1, pb2, pb3⟩ := hpb
      have Hp := Lib.hid hp
      have zh : wr.heap.size < (wr.alloc (.cells #[.int .i64 m, .bool false, .int .i64 ag] 35)).heap.size := (HM.out.box 0 rfl).2.1
      by_cases heq : p.1 + p.2 = (k : Int)
      · rw [if_pos heq] at hsw
        have HS := Lib.hid hsw
        have e5 : (p.1 + p.2 == (k : Int)) = true := by simpa using heq
        have Heq := Lib.hid heq
        clear hsw hbnd hn1 hp heq
        go_enter Try.func41, Try.ntmps41
        go_wp2
        go_quiet (fail)
        have hM1 := HM.out.drewN nq
        obtain ⟨W1, hW1⟩ : ∃ W1, (wr.alloc (.cells #[.int .i64 m, .bool false, .int .i64 ag] 35)).drewN nq = W1 := ⟨_, rfl⟩
        rw [hW1] at hM1 ⊢
        have x0 : W1.cell? ⟨wr.heap.size, 0, none⟩ = some (.int .i64 m) := by have := hM1.cell 0 rfl 0; simpa using this
        have x5 : W1.cell? ⟨b5, 0, none⟩ = some (.slice (some ⟨g, 0, none⟩) c cl) := by have := hM1.cell 1 rfl 0; simpa using this
        have z5 : b5 < W1.heap.size := (hM1.box 1 rfl).2.1
        have zx : wr.heap.size < W1.heap.size := (hM1.box 0 rfl).2.1
        have HM1 := Lib.hid hM1
        have y1 : W1.cell? ⟨g, n1 * 2 + 1, none⟩ = some (.int .i64 p.2) := by rw [← hW1]; simpa using d1
        have y2 : W1.frozen? ⟨g, n1 * 2 + 1, none⟩ = false := by rw [← hW1]; simpa using f1
        clear hM1 hW1 k5 kz HM d0 d1 f1 zh
        have hs := HM1.out
        rw [← Hc.out] at hs
        have hs2 := (hs.drew.setRow 2 rfl (n1 * 2 + 1) (.int .i64 (p.2 + (1 + (m : Int))))).drop (List.sublist_cons_self _ _)
        have Hs2 := Lib.hid hs2
        clear hs hs2
        have v0 : W1.drew.cell? ⟨wr.heap.size, 0, none⟩ = some (.int .i64 m) := by simpa using x0
        have v5 : W1.drew.cell? ⟨b5, 0, none⟩ = some (.slice (some ⟨g, 0, none⟩) c cl) := by simpa using x5
        have v1 : W1.drew.cell? ⟨g, n1 * 2 + 1, none⟩ = some (.int .i64 p.2) := by simpa using y1
        have v2 : W1.drew.frozen? ⟨g, n1 * 2 + 1, none⟩ = false := by simpa using y2
        have e6 : IntKind.i64.wrap (1 + (m : Int)) = 1 + (m : Int) := IntWalk.i64_in _ (by omega)
        have e7 : IntKind.i64.wrap (p.2 + (1 + (m : Int))) = p.2 + (1 + (m : Int)) := IntWalk.i64_in _ (by omega)
        clear x0 x5 y1 y2 e4 e5
        go_wp2
        go_region_law (fail)
        all_goals
          go_wp2
          go_ret
          refine ⟨rfl, Hfin.out (.slice (some ⟨g, 0, none⟩) l.length cl) _ (Hs2.out.cast ?_)⟩
          rw [HS.out, encB_set l n1 p _ Hp.out]
          unfold rowT
          rw [List.length_set]
          rfl
      · rw [if_neg heq] at hsw
        have HS := Lib.hid hsw
        have e5 : (p.1 + p.2 == (k : Int)) = false := by simpa using heq
        clear hsw hbnd hn1 hp heq
        go_enter Try.func41, Try.ntmps41
        go_wp2
        go_quiet (fail)
        have hM1 := HM.out.drewN nq
        obtain ⟨W1, hW1⟩ : ∃ W1, (wr.alloc (.cells #[.int .i64 m, .bool false, .int .i64 ag] 35)).drewN nq = W1 := ⟨_, rfl⟩
        rw [hW1] at hM1 ⊢
        have x0 : W1.cell? ⟨wr.heap.size, 0, none⟩ = some (.int .i64 m) := by have := hM1.cell 0 rfl 0; simpa using this
        have x5 : W1.cell? ⟨b5, 0, none⟩ = some (.slice (some ⟨g, 0, none⟩) c cl) := by have := hM1.cell 1 rfl 0; simpa using this
        have z5 : b5 < W1.heap.size := (hM1.box 1 rfl).2.1
        have zx : wr.heap.size < W1.heap.size := (hM1.box 0 rfl).2.1
        have HM1 := Lib.hid hM1
        clear hM1 hW1 k5 kz HM
        go_wp2_with (at_builtin; refine Mem.wp_appT elemBlocks rfl (.tmp 9) (.tmp 15) rfl HM1.out 2 rfl rfl _ ((k : Int), 1 + (m : Int)) #[.int .i64 k, .int .i64 (1 + (m : Int))] rfl _ _ rfl (by simp) rfl rfl (by decide) Hcn.out ?_; intro ad n6 cp w6 hn6 hM6 hs6 hk6 ha6; have f6 : w6.frozen? ⟨b5, 0, none⟩ = false := hM6.free 1 rfl 0; have c6 : w6.cell? ⟨b5, 0, none⟩ = some (.slice (some ⟨g, 0, none⟩) c cl) := (by have := hM6.cell 1 rfl 0; simpa using this))
        go_ret
        exact ⟨rfl, Hfin.out _ _ (by rw [HS.out]; exact (hM6.setBox 1 rfl 0 (.slice ad n6 cp)).drop (List.sublist_cons_self _ _))⟩
end Go.Proofs.Ytigdpdndnghldaa
