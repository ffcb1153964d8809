/- rotated, walked. -/
import Derived.Test.YtjeaaiklbefmmaaRr
import Derived.Test.YtjeaaiklbefmmaaLk
namespace Go.Proofs.Ytjeaaiklbefmmaa
open Go.RowKit Go.Shelf

def rot (n k : Nat) : List Int := (List.range n).map fun i => (((i + k) % n : Nat) : Int)
theorem rot_take (n k j : Nat) (h : j < n) : ((rot n k).take j) ++ [(((j + k) % n : Nat) : Int)] = (rot n k).take (j + 1) := by
  have : (rot n k)[j]? = some (((j + k) % n : Nat) : Int) := by simp [rot, h]
  rw [take_succ_some _ _ _ this]
theorem length_rot (n k : Nat) : (rot n k).length = n := by simp [rot]
theorem rot_rng (n k : Nat) : ∀ x ∈ rot n k, 0 ≤ x ∧ x < (n : Int) := by
  intro x hx
  obtain ⟨i, hi, rfl⟩ := List.mem_map.1 hx
  have := List.mem_range.1 hi
  have := Nat.mod_lt (i + k) (show 0 < n by omega)
  omega

set_option maxRecDepth 100000 in
set_option maxHeartbeats 1000000 in
theorem rotated_any (g : G) (hG : Good g) (k : Nat) (hk : k < g.objs.length) (v : Value) (w : World) (hg : IsGraph w v g) :
    Calls Try.prog 24 #[v, .int .i64 k] w fun e w' => ∃ v', e = .returned v' ∧ Graft w.heap.size w' v' (renumP g (rot g.objs.length k) (fun y => plc (rot g.objs.length k) y 0)) ∧ Below w.heap.size w w' := by
  have Hg := Lib.hid hg
  obtain ⟨vo, vr, rfl, ho, hr⟩ := hg
  obtain ⟨ao, co, rfl, hlo⟩ := ho.slice
  obtain ⟨ar, cr, rfl, hlr⟩ := hr.slice
  clear ho hr
  have hn24 := hG.objs
  have hM0 := (((Mem.start w).alloc #[.slice ao g.objs.length co, .slice ar g.roots.length cr] 25).allocAt (w.heap.size + 1) (by simp) #[.slice none 0 0, .slice none 0 0] 25).nilI 3
  obtain ⟨n, hn⟩ : ∃ n, g.objs.length = n := ⟨_, rfl⟩
  rw [hn] at hk hM0 hn24 ⊢
  go_enter Try.func24, Try.ntmps24
  go_wp2
  go_loopw [6, 7] (fun v i wr => ∃ j : Nat, j ≤ n ∧ i = .int .i64 j ∧ Mem w.heap.size w wr [rowI 3 v ((rot n k).take j), ebox (w.heap.size + 1) #[.slice none 0 0, .slice none 0 0] 25, ebox w.heap.size #[.slice ao n co, .slice ar g.roots.length cr] 25]) (fun _ i _ => n - (intOf i).toNat)
  case atStart => exact ⟨0, Nat.zero_le _, rfl, hM0⟩
  case round =>
    obtain ⟨j, hj, rfl, hM⟩ := hrel
    by_cases hlt : j < n
    · have HM := Lib.hid hM
      have Htk := Lib.hid (show ((rot n k).take j).length ≤ 1000000 by rw [List.length_take, length_rot]; omega)
      have hmod : ((j : Int) + k).tmod n = (((j + k) % n : Nat) : Int) := by rw [← Int.natCast_add]; exact Int.ofNat_tmod _ _
      have hn0 : ¬ (n : Int) = 0 := by omega
      clear hM
      go_wp2_with (at_builtin; refine Mem.wp_appI elemInts rfl (.tmp 16) (.tmp 22) rfl HM.out 0 rfl rfl _ (((j + k) % n : Nat) : Int) _ _ rfl (by simp) Htk.out ?_; intro ad n1 cp w1 hn1 hM3 hs1 hk1 ha1)
      go_roundw
      case rel => exact ⟨j + 1, by omega, by go_num, hM3.cast (by rw [rot_take _ _ _ hlt]; rfl)⟩
      case measure => simp [intOf]; omega
    · obtain rfl : j = n := by omega
      rw [List.take_of_length_le (by rw [length_rot]; exact Nat.le_refl _)] at hM
      obtain ⟨p0, p1⟩ := hM.cells2 2 rfl
      have hI : IsInts wr u6 (rot j k) := isInts_of_own (hM.ownI 0 rfl) (by rw [length_rot]; omega) (fun x hx => by have := rot_rng j k x hx; exact ⟨by omega, by omega⟩)
      have HI := Lib.hid hI
      have HM := Lib.hid hM
      clear hI hM
      go_wp2_with fail
      refine (renumR_any g hG _ _ (rot j k) _ (by rw [← hn]; exact Hg.out.later HM.out.below) HI.out (by rw [length_rot]; omega) (by rw [hn]; exact rot_rng j k)).mono ?_
      rintro e w3 ⟨v', rfl, hgr, hb3⟩
      obtain ⟨c, hc⟩ : ∃ c, c = renumP g (rot j k) (fun y => plc (rot j k) y 0) := ⟨_, rfl⟩
      rw [← hc] at hgr
      have HGr := Lib.hid hgr
      have hM4 := HM.out.call hb3
      obtain ⟨vo3, vr3, rfl, ho3, hr3⟩ := hgr.here
      obtain ⟨ao3, co3, rfl, _⟩ := ho3.slice
      obtain ⟨ar3, cr3, rfl, _⟩ := hr3.slice
      have Hc := Lib.hid hc
      clear hc hgr ho3 hr3
      obtain ⟨s2, s3⟩ := hM4.cells2 1 rfl
      have s4 : w3.frozen? ⟨w.heap.size + 1, 0, none⟩ = false := hM4.free 1 rfl 0
      have s5 : w3.frozen? ⟨w.heap.size + 1, 1, none⟩ = false := hM4.free 1 rfl 1
      have hM6 := (hM4.setBox 1 rfl 0 (.slice ao3 c.objs.length co3)).setBox 1 rfl 1 (.slice ar3 c.roots.length cr3)
      have HM6 := Lib.hid hM6
      clear hM4 hM6
      go_wp2
      obtain ⟨W6, hW6⟩ : ∃ W6, W6 = (w3.setCell ⟨w.heap.size + 1, 0, none⟩ (.slice ao3 c.objs.length co3)).setCell ⟨w.heap.size + 1, 1, none⟩ (.slice ar3 c.roots.length cr3) := ⟨_, rfl⟩
      have hM7 := HM6.out
      have hsz2 : w.heap.size + 1 < wr.heap.size := (HM.out.box 1 rfl).2.1
      rw [← hW6] at hM7 ⊢
      obtain ⟨r0, r1⟩ := hM7.cells2 (x := .slice ao3 c.objs.length co3) (y := .slice ar3 c.roots.length cr3) 1 rfl
      refine bodyPost_ret (v := .agg #[.slice ao3 c.objs.length co3, .slice ar3 c.roots.length cr3]) (by simp [results, Try.results24, go_sem, r0, r1]) rfl ⟨_, rfl, ?_, hM7.below⟩
      rw [← Hc.out]
      refine HGr.out.step (by omega) (by rw [hW6]; simp) ?_
      intro b h1 h2
      rw [hW6, heap_setCell_other _ _ _ _ (by simp only; omega), heap_setCell_other _ _ _ _ (by simp only; omega)]
end Go.Proofs.Ytjeaaiklbefmmaa
