/- What can be come to, as the reference has it, is what is found; the law file's size and headAt, walked. -/
import Derived.Test.YtgdodbdipbomfaaBt
import Derived.Test.YtgdodbdipbomfaaDr
namespace Go.Proofs.Ytgdodbdipbomfaa
open Go.RowKit Go.Shelf

theorem refers_targets {l : List V} {j : Int} : refersB l j = true ↔ j ∈ targets l := by
  unfold refersB targets
  rw [decide_eq_true_iff]
  constructor
  · intro h; exact List.mem_map.2 ⟨_, List.mem_filter.2 ⟨h, rfl⟩, rfl⟩
  · intro h
    obtain ⟨v, hv, rfl⟩ := List.mem_map.1 h
    obtain ⟨h1, h2⟩ := List.mem_filter.1 hv
    obtain ⟨r, n⟩ := v
    simp only at h2
    subst h2; exact h1
theorem reach_found {g : G} {L F : List Int} (hr : Rng g) (hL : ReachR g L) (hF : OrdS g F) (x : Int) : x ∈ F ↔ x ∈ L := by
  constructor
  · refine hF.least (P := fun x => x ∈ L) ?_ ?_ x
    · intro j hj
      have h := hr.target (roots_in g) hj
      have this : ((j.toNat : Nat) : Int) ∈ L := hL.closed.1 j.toNat (by omega) (refers_targets.2 (by rw [show ((j.toNat : Nat) : Int) = j by omega]; exact hj))
      rwa [show ((j.toNat : Nat) : Int) = j by omega] at this
    · intro y hy j hj
      have h := hr.target (fields_in g y) hj
      have h2 := hL.rng y hy
      have this : ((j.toNat : Nat) : Int) ∈ L := hL.closed.2 y.toNat j.toNat (by omega) (by omega) (by show ((y.toNat : Nat) : Int) ∈ L; rw [show ((y.toNat : Nat) : Int) = y by omega]; exact hy) (by
        unfold refF
        rw [show ((y.toNat : Nat) : Int) = y by omega, show ((j.toNat : Nat) : Int) = j by omega]
        exact refers_targets.2 hj)
      rwa [show ((j.toNat : Nat) : Int) = j by omega] at this
  · intro hx
    have h2 := hL.rng x hx
    have this : ((x.toNat : Nat) : Int) ∈ F := hL.sound x hx (fun n => (n : Int) ∈ F) ⟨fun j _ hj => hF.roots j (refers_targets.1 hj), fun i j _ _ hi hj => hF.closed hi j (refers_targets.1 hj)⟩
    rwa [show ((x.toNat : Nat) : Int) = x by omega] at this
theorem reach_size {ws rs : List Int} {os : List Ob} (hS : Sound ws rs os) {L F : List Int} (hL : ReachR (readG os rs) L) (hF : OrdS (readG os rs) F) : placeF os L L.length = placeF os F F.length := by
  unfold placeF
  rw [List.take_length, List.take_length]
  exact (sum_same _ hF.nodup (hL.rising.imp (fun h => by omega)) (reach_found (read_rng hS) hL hF)).symm

theorem IsGraph.shape' {w : World} {v : Value} {g : G} (h : IsGraph w v g) : ∃ ao co ar cr, v = .agg #[.slice ao g.objs.length co, .slice ar g.roots.length cr] := by
  obtain ⟨vo, vr, rfl, ho, hr⟩ := h
  obtain ⟨ao, co, rfl, h1⟩ := ho.slice
  obtain ⟨ar, cr, rfl, h2⟩ := hr.slice
  exact ⟨ao, co, ar, cr, rfl⟩

set_option maxRecDepth 100000 in
set_option maxHeartbeats 2000000 in
theorem size_any (vw vr : Value) (ws rs : List Int) (os : List Ob) (F : List Int) (w : World) (hw : IsW w vw ws) (hr : IsW w vr rs) (hS : Sound ws rs os) (hF : OrdS (readG os rs) F) :
    Calls Try.prog 27 #[.agg #[vw, vr]] w fun e w' => e = .returned (.int .i64 (placeF os F F.length : Nat)) ∧ Below w.heap.size w w' := by
  have Hw := Lib.hid hw
  have Hr := Lib.hid hr
  obtain ⟨aw, cw, rfl, hmw⟩ := hw.slice
  obtain ⟨ar, cr, rfl, hmr⟩ := hr.slice
  have hM0 := (Mem.start w).alloc #[.slice aw ws.length cw, .slice ar rs.length cr] 24
  have hws := hS.words
  have hcnt := hS.laid.count
  have HRd := Lib.hid (rread_yes _ _ ws rs os _ (hw.later hM0.below) (hr.later hM0.below) hS)
  have HM0 := Lib.hid hM0
  have HS := Lib.hid hS
  have HF := Lib.hid hF
  clear hw hr hM0 hS hF
  go_enter Try.func27, Try.ntmps27
  go_wp2_with fail
  refine HRd.out.mono ?_
  rintro e w2 ⟨gv, rfl, hG, hb⟩
  have hg2 := hG.here
  obtain ⟨n, hn⟩ : ∃ n, os.length = n := ⟨_, rfl⟩
  obtain ⟨gg, hgg⟩ : ∃ gg, readG os rs = gg := ⟨_, rfl⟩
  have hol : gg.objs.length = n := by rw [← hgg, ← hn]; show (os.map _).length = _; rw [List.length_map]
  rw [hgg] at hg2
  obtain ⟨ao, co, ar2, cr2, rfl⟩ := hg2.shape'
  rw [hol] at hg2 ⊢
  rw [hn] at hcnt
  have hM2 := HM0.out.call hb
  have hM3 := hM2.alloc #[.slice ao n co, .slice ar2 gg.roots.length cr2] 36
  obtain ⟨bG, hbG⟩ : ∃ bG, w2.heap.size = bG := ⟨_, rfl⟩
  obtain ⟨W3, hW3⟩ : ∃ W3, w2.alloc (.cells #[.slice ao n co, .slice ar2 gg.roots.length cr2] 36) = W3 := ⟨_, rfl⟩
  have hB3 : Below w2.heap.size w2 W3 := by rw [← hW3]; exact (Below.refl _ _).alloc (Nat.le_refl _) _
  rw [hbG, hW3] at hM3
  have hg3 := hg2.later hB3
  have HRe := Lib.hid (reachR_any gg (by omega) _ W3 hg3)
  have HM3 := Lib.hid hM3
  have Hg3 := Lib.hid hg3
  have HbG := Lib.hid hbG
  have HW3 := Lib.hid hW3
  have Hgg := Lib.hid hgg
  have Hn := Lib.hid hn
  have Hol := Lib.hid hol
  clear hg2 hG hb hM2 hM3 hB3 hg3 hbG hW3 hgg hn hol HRd HM0
  go_wp2_with fail
  rw [HbG.out, HW3.out]
  refine HRe.out.mono ?_
  rintro e w4 ⟨vl, L, rfl, hL, hM4⟩
  have hLlen : L.length ≤ 256 := by
    have h1 := nodup_sub_len L (upTo gg.objs.length) (hL.rising.imp (fun h => by omega)) (fun x hx => mem_upTo.2 (hL.rng x hx))
    rw [upTo_len, Hol.out] at h1; omega
  have hI := isInts_of_own (hM4.ownI 0 rfl) (by omega) (fun x hx => by have := hL.rng x hx; rw [Hol.out] at this; unfold i64ok; omega)
  obtain ⟨al, cl, rfl, _⟩ := hI.slice
  have hM5 := HM3.out.callMem hM4
  have hsum : placeF os L L.length = placeF os F F.length := by
    have h1 := HF.out
    rw [Hgg.out] at h1
    have h2 := hL
    rw [← Hgg.out] at h1 h2
    exact reach_size HS.out h2 h1
  have htot : placeF os F F.length ≤ 256 := by
    have hK := ord_keeps HS.out HF.out
    have h1 := placeF_le hK.nodup hK.rng F.length
    rw [← HS.out.laid.1] at h1; omega
  obtain ⟨tot, htt⟩ : ∃ tot, placeF os F F.length = tot := ⟨_, rfl⟩
  rw [htt] at hsum htot
  have Htt := Lib.hid htt
  obtain ⟨ll, hll⟩ : ∃ ll, L.length = ll := ⟨_, rfl⟩
  have Hll := Lib.hid hll
  rw [hll] at hsum hLlen ⊢
  have Hsum := Lib.hid hsum
  have HL := Lib.hid hL
  have HI := Lib.hid hI
  have HM5 := Lib.hid hM5
  have HMp : Hid (∀ k, k ≤ ll → placeF os L k ≤ 256) := Lib.hid (fun k hk => by have := placeF_mono os L hk; omega)
  have Hg4 := Lib.hid (Hg3.out.later hM4.below)
  clear hL hI hM4 hM5 htt hll hsum HRe HW3
  go_wp2
  go_loopw [3, 12] (fun s i wr => ∃ k : Nat, k ≤ ll ∧ i = .int .i64 k ∧ s = .int .i64 (placeF os L k : Nat) ∧ wr = w4) (fun _ i _ => ll - (intOf i).toNat)
  case atStart => exact ⟨0, Nat.zero_le _, rfl, rfl, rfl⟩
  case round =>
    obtain ⟨k, hk, rfl, rfl, rfl⟩ := hrel
    by_cases hlt : k < ll
    · obtain ⟨i, hi⟩ := get_some L k (by rw [Hll.out]; exact hlt)
      obtain ⟨b, off, cap', hv, _, hb3, d1, _⟩ := HI.out.at (Below.refl _ _) hi
      rw [Hll.out] at hv
      cases hv
      have hir := HL.out.rng i (List.mem_of_getElem? hi)
      rw [Hol.out] at hir
      obtain ⟨iN, rfl⟩ : ∃ iN : Nat, i = iN := ⟨i.toNat, by omega⟩
      obtain ⟨o, ho⟩ := get_some os iN (by rw [Hn.out]; omega)
      have hobj : gg.objs[iN]? = some (o.2.map (valG os)) := by rw [← Hgg.out]; show (os.map _)[iN]? = _; rw [List.getElem?_map, ho]; rfl
      obtain ⟨vo, vr2, hvv, hO, _⟩ := Hg4.out
      obtain ⟨rfl, rfl⟩ : vo = _ ∧ vr2 = _ := by simpa using hvv.symm
      obtain ⟨b2, off2, cap2, u, hv, _, hb5, d2, hu⟩ := hO.at (Below.refl _ _) hobj
      rw [Hol.out] at hv
      cases hv
      obtain ⟨au, cu, rfl, _⟩ := hu.slice
      rw [List.length_map] at d2
      have hs := placeF_succ os hi
      have hp2 := HMp.out (k + 1) (by omega)
      have hoo : obj os (iN : Int) = o := by
        have h1 := obj_get (os := os) (i := (iN : Int)) ⟨by omega, by rw [Hn.out]; omega⟩
        rw [Int.toNat_natCast, ho] at h1
        exact (Option.some.inj h1).symm
      unfold szO at hs
      rw [hoo] at hs
      have e0 : wr.cell? ⟨bG, 0, none⟩ = some (.slice (some ⟨b2, off2, none⟩) n co) := by have := HM5.out.cell 1 rfl 0; simpa using this
      have ez : bG < wr.heap.size := (HM5.out.box 1 rfl).2.1
      obtain ⟨m, hm⟩ : ∃ m, o.2.length = m := ⟨_, rfl⟩
      obtain ⟨p, hp⟩ : ∃ p, placeF os L k = p := ⟨_, rfl⟩
      rw [hm] at d2 hs
      rw [hp] at hs ⊢
      have Hs := Lib.hid hs
      have hq1 : p + (1 + m) ≤ 256 := by omega
      have hin : iN < n := by omega
      clear hobj hO hu hoo hs hm hp hi ho hvv hp2 hir
      go_wp2
      go_roundw
      case rel => exact ⟨k + 1, by omega, by go_num, by rw [Hs.out]; go_num, trivial⟩
      case measure => simp [intOf]; omega
    · obtain rfl : k = ll := by omega
      go_wp2
      go_ret
      exact ⟨by rw [Hsum.out, ← Htt.out]; rfl, HM5.out.below⟩
end Go.Proofs.Ytgdodbdipbomfaa
