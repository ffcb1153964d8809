/- TrialAll, walked. -/
import Derived.Test.YtdmgpiimacnapaaTi
import Derived.Test.YtdmgpiimacnapaaSp
import Derived.Test.YtdmgpiimacnapaaOpen
namespace Go.Proofs.Ytdmgpiimacnapaa
open Go.RowKit Go.Shelf

/-- The numbers below k. -/
def uptoL (k : Nat) : List Int := (List.range k).map fun (i : Nat) => (i : Int)
theorem uptoL_len (k : Nat) : (uptoL k).length = k := by simp [uptoL]
theorem uptoL_succ (k : Nat) : uptoL (k + 1) = uptoL k ++ [(k : Int)] := by simp [uptoL, List.range_succ]
theorem mem_uptoL {k : Nat} {x : Int} : x ∈ uptoL k ↔ 0 ≤ x ∧ x < (k : Int) := by
  unfold uptoL
  rw [List.mem_map]
  constructor
  · rintro ⟨i, hi, rfl⟩; rw [List.mem_range] at hi; omega
  · rintro ⟨h0, h1⟩; exact ⟨x.toNat, List.mem_range.2 (by omega), by omega⟩
theorem nodup_of_rising {l : List Int} (h : l.Pairwise (· < ·)) : l.Nodup := h.imp (fun h e => by omega)
theorem nodup_two {a b : List Int} (ha : a.Nodup) (hb : b.Nodup) (h : ∀ x ∈ a, x ∉ b) : (a ++ b).Nodup :=
  List.nodup_append.2 ⟨ha, hb, fun x hx _ hy e => h x hx (e ▸ hy)⟩
theorem isInts_rising {B : Nat} {w0 w : World} {L : List Ent} (h : Mem B w0 w L) (k : Nat) {e : TypeId} {v : Value} {l : List Int} (hk : L[k]? = some (rowI e v l)) (hl : l.length ≤ 1000) (hr : ∀ x ∈ l, 0 ≤ x ∧ x < 1000000) : IsInts w v l :=
  isInts_of_own (h.ownI k hk) (by omega) (fun x hx => by have := hr x hx; exact ⟨by omega, by omega⟩)

set_option maxRecDepth 100000 in
set_option maxHeartbeats 1000000 in
theorem tall_good (g : G) (hG : Good g) (v : Value) (w : World) (hg : IsGraph w v g) :
    Calls Try.prog 9 #[v] w fun e w' => e = .returned (.bool true) ∧ Below w.heap.size w w' := by
  have Hg := Lib.hid hg
  obtain ⟨vo, vr, rfl, ho, hr⟩ := hg
  obtain ⟨ao, co, rfl, hlo⟩ := ho.slice
  obtain ⟨ar, cr, rfl, hlr⟩ := hr.slice
  have hM0 := (Mem.start w).alloc #[.slice ao g.objs.length co, .slice ar g.roots.length cr] 25
  have HG := Lib.hid hG
  have hn := hG.objs
  clear ho hr hG
  go_enter Try.func9, Try.ntmps9
  go_wp2_with fail
  refine (good_yes _ g _ (Hg.out.later hM0.below) HG.out).mono ?_
  rintro e w1 ⟨rfl, hb1⟩
  have hM1 := hM0.call hb1
  obtain ⟨p0, p1⟩ := hM1.cells2 0 rfl
  have hM2 : Mem w.heap.size w w1 [rowI 3 (.slice none 0 0) (uptoL 0), ebox w.heap.size #[.slice ao g.objs.length co, .slice ar g.roots.length cr] 25] := hM1.nilI 3
  clear hM0 hM1 hb1
  go_wp2
  go_loopw [3, 4] (fun lv iv wr => ∃ k : Nat, k ≤ g.objs.length ∧ iv = .int .i64 k ∧ Mem w.heap.size w wr [rowI 3 lv (uptoL k), ebox w.heap.size #[.slice ao g.objs.length co, .slice ar g.roots.length cr] 25]) (fun _ iv _ => g.objs.length - (intOf iv).toNat)
  case atStart => exact ⟨0, Nat.zero_le _, rfl, hM2⟩
  case round =>
    clear hM2 p0 p1
    obtain ⟨k, hk, rfl, hM⟩ := hrel
    obtain ⟨p0, p1⟩ := hM.cells2 1 rfl
    have z0 : w.heap.size < wr.heap.size := (hM.box 1 rfl).2.1
    have hul := uptoL_len k
    by_cases hlt : k < g.objs.length
    · have HM := Lib.hid hM
      have Hul := Lib.hid (show (uptoL k).length ≤ 24 by omega)
      clear hM hul
      go_wp2_with (at_builtin; refine Mem.wp_appI elemInts rfl (.tmp 21) (.tmp 23) rfl HM.out 0 rfl rfl _ (k : Int) _ _ rfl (by simp) (by have := Hul.out; omega) ?_; intro ad n1 cp w2 hn1 hM3 hs1 hk1 ha1)
      go_roundw
      case rel => exact ⟨k + 1, by omega, by go_num, hM3.cast (by rw [uptoL_succ]; rfl)⟩
      case measure => simp [intOf]; omega
    · obtain rfl : k = g.objs.length := by omega
      have hI := isInts_rising hM 0 rfl (by omega) (fun x hx => by have := mem_uptoL.1 hx; omega)
      obtain ⟨af, cf, rfl, _⟩ := hI.slice
      have HI := Lib.hid hI
      have HM := Lib.hid hM
      clear hM hI hul
      go_wp2_with fail
      refine (trial_reads g _ _ (uptoL g.objs.length) _ (Hg.out.later HM.out.below) HI.out ⟨HG.out, by rw [uptoL_len]; exact hn, fun x hx => mem_uptoL.1 hx⟩).mono ?_
      rintro e w2 ⟨vl, L, rfl, hT, hl, hb2⟩
      obtain ⟨al, cl, rfl, _⟩ := hl.slice
      have hM3 := HM.out.call hb2
      obtain ⟨q0, q1⟩ := hM3.cells2 1 rfl
      have HT := Lib.hid hT
      have Hl := Lib.hid hl
      have HM3 := Lib.hid hM3
      clear hT hl hb2 hM3
      go_wp2_with fail
      refine (reach_any g HG.out _ _ (Hg.out.later HM3.out.below)).mono ?_
      rintro e w4 ⟨vr2, l, dist, rfl, hF, hM5⟩
      have hrl := isInts_reach HG.out hF 0 hM5 rfl
      obtain ⟨ar2, cr2, rfl, _⟩ := hrl.slice
      have hM6 := HM3.out.callMem hM5
      obtain ⟨q2, q3⟩ := hM6.cells2 2 rfl
      have hFar := hF.far HG.out
      have hsp := split_yes g.objs.length (by omega) _ _ L (sorted l) w4 (Hl.out.later hM5.below) hrl
        (nodup_two (nodup_of_rising HT.out.rising) (nodup_of_rising (sorted_lt hFar.inv.nodup)) (fun x hx hs => HT.out.far HG.out hFar x (mem_sorted.1 hs) hx))
        (fun x hx => by
          rcases List.mem_append.1 hx with h | h
          · exact HT.out.rng x h
          · exact hFar.inv.rng x (mem_sorted.1 h))
        (fun i hi => by
          by_cases h : (i : Int) ∈ l
          · exact List.mem_append_right _ (mem_sorted.2 h)
          · exact List.mem_append_left _ (HT.out.all (fun j hj => mem_uptoL.2 ⟨by omega, by omega⟩) hFar i hi h))
      have Hsp := Lib.hid hsp
      have HM6 := Lib.hid hM6
      clear hsp hM6 hM5 hrl hF hFar
      go_wp2_with fail
      refine Hsp.out.mono ?_
      rintro e w7 ⟨rfl, hb7⟩
      have hbe := Lib.hid (HM6.out.call hb7).below
      go_wp2
      go_ret
      exact ⟨rfl, hbe.out⟩
set_option maxRecDepth 100000 in
theorem tall_bad (g : G) (hG : ¬ Good g) (v : Value) (w : World) (hg : IsGraph w v g) :
    Calls Try.prog 9 #[v] w fun e w' => e = .returned (.bool true) ∧ Below w.heap.size w w' := by
  have Hg := Lib.hid hg
  obtain ⟨vo, vr, rfl, ho, hr⟩ := hg
  obtain ⟨ao, co, rfl, hlo⟩ := ho.slice
  obtain ⟨ar, cr, rfl, hlr⟩ := hr.slice
  have hM0 := (Mem.start w).alloc #[.slice ao g.objs.length co, .slice ar g.roots.length cr] 25
  have HG := Lib.hid hG
  clear ho hr hG
  go_enter Try.func9, Try.ntmps9
  go_wp2_with fail
  refine (good_no _ g _ (Hg.out.later hM0.below) HG.out).mono ?_
  rintro e w1 ⟨rfl, hb1⟩
  have hM1 := hM0.call hb1
  obtain ⟨p0, p1⟩ := hM1.cells2 0 rfl
  go_wp2_with fail
  refine (refused_yes _ g _ (Hg.out.later hM1.below) HG.out).mono ?_
  rintro e w2 ⟨rfl, hb2⟩
  have hbe := Lib.hid (hM1.call hb2).below
  go_wp2
  go_ret
  exact ⟨rfl, hbe.out⟩
theorem tall_walk (w : World) (v : Value) (h : ∃ g, IsGraph w v g) :
    Calls Try.prog 9 #[v] w fun e w' => e = .returned (.bool true) ∧ Below w.heap.size w w' := by
  obtain ⟨g, hg⟩ := h
  by_cases hG : Good g
  · exact tall_good g hG v w hg
  · exact tall_bad g hG v w hg
end Go.Proofs.Ytdmgpiimacnapaa
