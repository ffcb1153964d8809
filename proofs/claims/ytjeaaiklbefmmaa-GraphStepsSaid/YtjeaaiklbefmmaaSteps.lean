/- GraphSteps: the walk and the plain law. -/
import Derived.Test.YtjeaaiklbefmmaaDi
import Derived.Test.YtjeaaiklbefmmaaG2
import Derived.Test.YtjeaaiklbefmmaaOpen
namespace Go.Proofs.Ytjeaaiklbefmmaa
open Go.RowKit Go.Shelf

def bestN (g : G) (dist : List Int) (j : Int) : Nat → Int
  | 0 => -1
  | i + 1 => if 0 ≤ dist.getD i 0 ∧ refersB (fieldsAt g i) j = true ∧ (bestN g dist j i < 0 ∨ dist.getD i 0 + 1 < bestN g dist j i) then dist.getD i 0 + 1 else bestN g dist j i

theorem bestN_spec (g : G) (dist : List Int) (j : Int) : ∀ i, (bestN g dist j i = -1 ∧ ∀ a < i, 0 ≤ dist.getD a 0 → refersB (fieldsAt g (a : Nat)) j = false) ∨
    ∃ a < i, 0 ≤ dist.getD a 0 ∧ refersB (fieldsAt g (a : Nat)) j = true ∧ bestN g dist j i = dist.getD a 0 + 1 ∧ ∀ b < i, 0 ≤ dist.getD b 0 → refersB (fieldsAt g (b : Nat)) j = true → dist.getD a 0 ≤ dist.getD b 0 := by
  intro i
  induction i with
  | zero => exact .inl ⟨rfl, fun a ha => absurd ha (Nat.not_lt_zero _)⟩
  | succ i ih =>
    unfold bestN
    by_cases h1 : 0 ≤ dist.getD i 0
    · by_cases h2 : refersB (fieldsAt g i) j = true
      · rcases ih with ⟨e, h⟩ | ⟨a, ha, h3, h4, e, h⟩
        · rw [if_pos ⟨h1, h2, .inl (by omega)⟩]
          refine .inr ⟨i, by omega, h1, h2, rfl, ?_⟩
          intro b hb h5 h6
          rcases Nat.lt_or_ge b i with h7 | h7
          · have := h b h7 h5; rw [this] at h6; cases h6
          · obtain rfl : b = i := by omega
            omega
        · by_cases h8 : dist.getD i 0 < dist.getD a 0
          · rw [if_pos ⟨h1, h2, .inr (by omega)⟩]
            refine .inr ⟨i, by omega, h1, h2, rfl, ?_⟩
            intro b hb h5 h6
            rcases Nat.lt_or_ge b i with h7 | h7
            · have := h b h7 h5 h6; omega
            · obtain rfl : b = i := by omega
              omega
          · rw [if_neg (fun h9 => by have := h9.2.2; omega)]
            refine .inr ⟨a, by omega, h3, h4, e, ?_⟩
            intro b hb h5 h6
            rcases Nat.lt_or_ge b i with h7 | h7
            · exact h b h7 h5 h6
            · obtain rfl : b = i := by omega
              omega
      · rw [if_neg (fun h9 => h2 h9.2.1)]
        have h2' : refersB (fieldsAt g i) j = false := by simpa using h2
        rcases ih with ⟨e, h⟩ | ⟨a, ha, h3, h4, e, h⟩
        · refine .inl ⟨e, ?_⟩
          intro b hb h5
          rcases Nat.lt_or_ge b i with h7 | h7
          · exact h b h7 h5
          · obtain rfl : b = i := by omega
            exact h2'
        · refine .inr ⟨a, by omega, h3, h4, e, ?_⟩
          intro b hb h5 h6
          rcases Nat.lt_or_ge b i with h7 | h7
          · exact h b h7 h5 h6
          · obtain rfl : b = i := by omega
            exact (h2 h6).elim
    · rw [if_neg (fun h9 => h1 h9.1)]
      rcases ih with ⟨e, h⟩ | ⟨a, ha, h3, h4, e, h⟩
      · refine .inl ⟨e, ?_⟩
        intro b hb h5
        rcases Nat.lt_or_ge b i with h7 | h7
        · exact h b h7 h5
        · obtain rfl : b = i := by omega
          exact (h1 h5).elim
      · refine .inr ⟨a, by omega, h3, h4, e, ?_⟩
        intro b hb h5 h6
        rcases Nat.lt_or_ge b i with h7 | h7
        · exact h b h7 h5 h6
        · obtain rfl : b = i := by omega
          exact (h1 h5).elim

theorem refersB_iff {l : List V} {j : Int} : refersB l j = true ↔ j ∈ targets l := by
  unfold refersB targets
  rw [decide_eq_true_iff, List.mem_map]
  constructor
  · intro h; exact ⟨_, List.mem_filter.2 ⟨h, rfl⟩, rfl⟩
  · rintro ⟨⟨r, n⟩, h, rfl⟩
    obtain ⟨h1, h2⟩ := List.mem_filter.1 h
    simp at h2; subst h2; exact h1

def bestOf (g : G) (dist : List Int) (j : Nat) : Int := if refersB g.roots j = true then 0 else bestN g dist j g.objs.length
theorem best_law {g : G} {l dist : List Int} (h : Far g l dist) {j : Nat} (hj : j < g.objs.length) : dist.getD j 0 = bestOf g dist j := by
  have hn := h.inv.len
  have hD : ∀ a : Nat, D (l, dist) (a : Int) = dist.getD a 0 := fun a => by simp [D]
  have hmem : ∀ a : Nat, a < g.objs.length → (0 ≤ dist.getD a 0 ↔ (a : Int) ∈ l) := fun a ha => h.inv.iff a ha
  unfold bestOf
  by_cases hr : refersB g.roots j = true
  · rw [if_pos hr, ← hD]; exact (h.root j (refersB_iff.1 hr)).2
  · rw [if_neg hr]
    rcases bestN_spec g dist j g.objs.length with ⟨e, h1⟩ | ⟨a, ha, h1, h2, e, h3⟩
    · rw [e]
      by_cases h0 : 0 ≤ dist.getD j 0
      · rcases h.par j ((hmem j hj).1 h0) with ⟨h4, _⟩ | ⟨p, hp, h4, h5⟩
        · exact (hr (refersB_iff.2 h4)).elim
        · have hpr := h.inv.rng p hp
          obtain ⟨q, rfl⟩ : ∃ q : Nat, p = (q : Int) := ⟨p.toNat, by omega⟩
          have := h1 q (by omega) ((hmem q (by omega)).2 hp)
          rw [refersB_iff.2 h4] at this; cases this
      · have : dist.getD j 0 ∈ dist := by
          rw [List.getD_eq_getElem?_getD, List.getElem?_eq_getElem (by simp only at hn; omega)]; simp
        have := h.inv.low _ this
        omega
    · rw [e]
      have h6 := h.closed a ((hmem a ha).1 h1) j (refersB_iff.1 h2)
      rw [hD, hD] at h6
      have h7 := (hmem j hj).2 h6.1
      rcases h.par j h6.1 with ⟨h4, _⟩ | ⟨p, hp, h4, h5⟩
      · exact (hr (refersB_iff.2 h4)).elim
      · have hpr := h.inv.rng p hp
        obtain ⟨q, rfl⟩ : ∃ q : Nat, p = (q : Int) := ⟨p.toNat, by omega⟩
        rw [hD, hD] at h5
        have := h3 q (by omega) ((hmem q (by omega)).2 hp) (refersB_iff.2 h4)
        omega

theorem fieldsAt_get {g : G} {k : Nat} {o : List V} (h : g.objs[k]? = some o) : fieldsAt g (k : Int) = o := by
  unfold fieldsAt; rw [Int.toNat_natCast, List.getD_eq_getElem?_getD, h]; rfl

set_option maxRecDepth 100000 in
set_option maxHeartbeats 4000000 in
theorem steps_good (g : G) (hG : Good g) (v : Value) (w : World) (hg : IsGraph w v g) :
    Calls Try.prog 3 #[v] w fun e w' => e = .returned (.bool true) ∧ Below w.heap.size w w' := by
  have hg0 := hg
  obtain ⟨vo, vr, rfl, ho, hr⟩ := hg
  obtain ⟨ao, co, rfl, hlo⟩ := ho.slice
  obtain ⟨ar, cr, rfl, hlr⟩ := hr.slice
  have Hg := Lib.hid hg0
  have Ho := Lib.hid ho
  have Hr := Lib.hid hr
  clear ho hr hg0
  have hM0 := (Mem.start w).alloc #[.slice ao g.objs.length co, .slice ar g.roots.length cr] 25
  go_enter Try.func3, Try.ntmps3
  go_wp2_with fail
  refine (good_yes _ g _ (Hg.out.later hM0.below) hG).mono ?_
  rintro e w1 ⟨rfl, hb⟩
  have hM1 := hM0.call hb
  have p0 : w1.cell? ⟨w.heap.size, 0, none⟩ = some (.slice ao g.objs.length co) := by have := hM1.cell 0 rfl 0; simpa using this
  have p1 : w1.cell? ⟨w.heap.size, 1, none⟩ = some (.slice ar g.roots.length cr) := by have := hM1.cell 0 rfl 1; simpa using this
  go_wp2_with fail
  refine (dist_any g hG _ w1 (Hg.out.later hM1.below)).mono ?_
  rintro e w2 ⟨vd, l, dist, rfl, hF, hM2⟩
  have hM3 := hM1.callMem hM2
  have q0 : w2.cell? ⟨w.heap.size, 0, none⟩ = some (.slice ao g.objs.length co) := by have := hM3.cell 1 rfl 0; simpa using this
  have q1 : w2.cell? ⟨w.heap.size, 1, none⟩ = some (.slice ar g.roots.length cr) := by have := hM3.cell 1 rfl 1; simpa using this
  have hfar := hF.far hG
  have hlen : dist.length = g.objs.length := hfar.inv.len
  have hll : l.length ≤ g.objs.length := hfar.inv.length_le
  have hn := hG.objs
  have hI := isInts_dist hG hfar 0 hM3 rfl
  obtain ⟨ad, cd, rfl, hld⟩ := hI.slice
  have HI := Lib.hid hI
  have Hfar := Lib.hid hfar
  have HM3 := Lib.hid hM3
  have Hlen := Lib.hid hlen
  clear hI hfar hM3 hM2 hF
  go_wp2
  go_loopw [5] (fun i wr => ∃ k : Nat, k ≤ g.objs.length ∧ i = .int .i64 k ∧ Mem w.heap.size w wr [rowI 3 (.slice ad dist.length cd) dist, ebox w.heap.size #[.slice ao g.objs.length co, .slice ar g.roots.length cr] 25]) (fun i _ => g.objs.length - (intOf i).toNat)
  case atStart => exact ⟨0, Nat.zero_le _, rfl, HM3.out⟩
  case round =>
    obtain ⟨j, hj, rfl, hMj⟩ := hrel
    by_cases hlt : j < g.objs.length
    · go_wp2
      go_loopw [6, 7] (fun b i wr => ∃ k : Nat, k ≤ g.objs.length ∧ i = .int .i64 k ∧ b = .int .i64 (bestN g dist j k) ∧ Mem w.heap.size w wr [rowI 3 (.slice ad dist.length cd) dist, ebox w.heap.size #[.slice ao g.objs.length co, .slice ar g.roots.length cr] 25]) (fun _ i _ => g.objs.length - (intOf i).toNat)
      case atStart => exact ⟨0, Nat.zero_le _, rfl, rfl, hMj⟩
      case round =>
        obtain ⟨k, hk, rfl, rfl, hMk⟩ := hrel
        have k0 : wr.cell? ⟨w.heap.size, 0, none⟩ = some (.slice ao g.objs.length co) := by have := hMk.cell 1 rfl 0; simpa using this
        have k1 : wr.cell? ⟨w.heap.size, 1, none⟩ = some (.slice ar g.roots.length cr) := by have := hMk.cell 1 rfl 1; simpa using this
        have hIk := isInts_dist hG Hfar.out 0 hMk rfl
        have HMk := Lib.hid hMk
        by_cases hlt2 : k < g.objs.length
        · obtain ⟨d, hd⟩ := get_some dist k (by rw [Hlen.out]; exact hlt2)
          have hgd : dist.getD k 0 = d := by rw [List.getD_eq_getElem?_getD, hd]; rfl
          have hdb := dist_bound Hfar.out d (List.mem_of_getElem? hd)
          obtain ⟨o, hob⟩ := get_some g.objs k hlt2
          have hfo := fieldsAt_get hob
          obtain ⟨bd, od, cap2, hv, hbd, hn2, c1, _⟩ := hIk.at (Below.refl _ _) hd
          cases hv
          obtain ⟨bo, oo, cap3, u, hv2, hbo, hn3, c2, hu⟩ := Ho.out.at HMk.out.below hob
          cases hv2
          obtain ⟨au, cu, rfl, hlu⟩ := hu.slice
          have hu2 := hu.later HMk.out.below
          have hS : bestN g dist j (k + 1) = if 0 ≤ d ∧ refersB o j = true ∧ (bestN g dist j k < 0 ∨ d + 1 < bestN g dist j k) then d + 1 else bestN g dist j k := by
            rw [bestN, hgd, hfo]
          have hbb : -1 ≤ bestN g dist j k ∧ bestN g dist j k ≤ 25 := by
            rcases bestN_spec g dist j k with ⟨e, _⟩ | ⟨a, ha, h1, _, e, _⟩
            · omega
            · have hm : dist.getD a 0 ∈ dist := by rw [List.getD_eq_getElem?_getD, List.getElem?_eq_getElem (by rw [Hlen.out]; omega)]; simp
              have := dist_bound Hfar.out _ hm
              omega
          obtain ⟨b, hbe⟩ : ∃ b, bestN g dist j k = b := ⟨_, rfl⟩
          rw [hbe] at hS hbb ⊢
          obtain ⟨hb0, hb1⟩ := hbb
          obtain ⟨hd0, hd1⟩ := hdb
          have hd2 : d ≤ 24 := by omega
          have Hu2 := Lib.hid hu2
          have Hd := Lib.hid hd
          clear hd hgd hob hfo hu hu2 hbe hIk hMk
          by_cases h0 : 0 ≤ d
          · cases hrf : refersB o j with
            | false =>
              rw [if_neg (by simp [hrf])] at hS
              have HS := Lib.hid hS
              clear hS
              go_wp2_with fail
              refine (refers_any _ o j _ Hu2.out).mono ?_
              rintro e w4 ⟨rfl, hb4⟩
              have hM5 := HMk.out.call hb4
              obtain ⟨_, _, _, hv5, _, _, c5, _⟩ := (isInts_dist hG Hfar.out 0 hM5 rfl).at (Below.refl _ _) Hd.out
              cases hv5
              go_wp2
              go_roundw
              case rel => exact ⟨k + 1, by omega, by go_num, by rw [HS.out], hM5⟩
              case measure => simp [intOf]; omega
            | true =>
              by_cases h1 : b < 0
              · rw [if_pos ⟨h0, hrf, .inl h1⟩] at hS
                have HS := Lib.hid hS
                clear hS
                go_wp2_with fail
                refine (refers_any _ o j _ Hu2.out).mono ?_
                rintro e w4 ⟨rfl, hb4⟩
                have hM5 := HMk.out.call hb4
                obtain ⟨_, _, _, hv5, _, _, c5, _⟩ := (isInts_dist hG Hfar.out 0 hM5 rfl).at (Below.refl _ _) Hd.out
                cases hv5
                go_wp2
                go_roundw
                case rel => exact ⟨k + 1, by omega, by go_num, by rw [HS.out], hM5⟩
                case measure => simp [intOf]; omega
              · by_cases h2 : d + 1 < b
                · rw [if_pos ⟨h0, hrf, .inr h2⟩] at hS
                  have HS := Lib.hid hS
                  clear hS
                  go_wp2_with fail
                  refine (refers_any _ o j _ Hu2.out).mono ?_
                  rintro e w4 ⟨rfl, hb4⟩
                  have hM5 := HMk.out.call hb4
                  obtain ⟨_, _, _, hv5, _, _, c5, _⟩ := (isInts_dist hG Hfar.out 0 hM5 rfl).at (Below.refl _ _) Hd.out
                  cases hv5
                  go_wp2
                  go_roundw
                  case rel => exact ⟨k + 1, by omega, by go_num, by rw [HS.out], hM5⟩
                  case measure => simp [intOf]; omega
                · rw [if_neg (fun h => h.2.2.elim h1 h2)] at hS
                  have HS := Lib.hid hS
                  clear hS
                  go_wp2_with fail
                  refine (refers_any _ o j _ Hu2.out).mono ?_
                  rintro e w4 ⟨rfl, hb4⟩
                  have hM5 := HMk.out.call hb4
                  obtain ⟨_, _, _, hv5, _, _, c5, _⟩ := (isInts_dist hG Hfar.out 0 hM5 rfl).at (Below.refl _ _) Hd.out
                  cases hv5
                  go_wp2
                  go_roundw
                  case rel => exact ⟨k + 1, by omega, by go_num, by rw [HS.out], hM5⟩
                  case measure => simp [intOf]; omega
          · rw [if_neg (fun h => h0 h.1)] at hS
            have HS := Lib.hid hS
            clear hS
            go_wp2
            go_roundw
            case rel => exact ⟨k + 1, by omega, by go_num, by rw [HS.out], HMk.out⟩
            case measure => simp [intOf]; omega
        · obtain rfl : k = g.objs.length := by omega
          obtain ⟨d, hd⟩ := get_some dist j (by rw [Hlen.out]; exact hlt)
          have hgd : dist.getD j 0 = d := by rw [List.getD_eq_getElem?_getD, hd]; rfl
          obtain ⟨bd, od, cap2, hv, hbd, hn2, c1, _⟩ := hIk.at (Below.refl _ _) hd
          cases hv
          have hS := best_law Hfar.out (j := j) hlt
          rw [hgd, bestOf] at hS
          have Hr2 := Lib.hid (Hr.out.later HMk.out.below)
          have Hd := Lib.hid hd
          clear hd hgd hIk hMk
          cases hrf : refersB g.roots j with
          | true =>
            rw [if_pos hrf] at hS
            subst hS
            go_wp2_with fail
            refine (refers_any _ g.roots j _ Hr2.out).mono ?_
            rintro e w4 ⟨rfl, hb4⟩
            have hM5 := HMk.out.call hb4
            obtain ⟨_, _, _, hv5, _, _, c5, _⟩ := (isInts_dist hG Hfar.out 0 hM5 rfl).at (Below.refl _ _) Hd.out
            cases hv5
            go_wp2
            go_roundw
            case rel => exact ⟨j + 1, by omega, by go_num, hM5⟩
            case measure => simp [intOf]; omega
          | false =>
            rw [if_neg (by simp [hrf])] at hS
            rw [← hS]
            clear hS
            go_wp2_with fail
            refine (refers_any _ g.roots j _ Hr2.out).mono ?_
            rintro e w4 ⟨rfl, hb4⟩
            have hM5 := HMk.out.call hb4
            obtain ⟨_, _, _, hv5, _, _, c5, _⟩ := (isInts_dist hG Hfar.out 0 hM5 rfl).at (Below.refl _ _) Hd.out
            cases hv5
            go_wp2
            go_roundw
            case rel => exact ⟨j + 1, by omega, by go_num, hM5⟩
            case measure => simp [intOf]; omega
    · obtain rfl : j = g.objs.length := by omega
      go_wp2
      go_ret
      exact ⟨rfl, hMj.below⟩

theorem steps_walk (w : World) (v : Value) (h : ∃ g, IsGraph w v g) : Calls Try.prog 3 #[v] w fun e w' => e = .returned (.bool true) ∧ Below w.heap.size w w' := by
  obtain ⟨g, hg⟩ := h
  by_cases hG : Good g
  · exact steps_good g hG v w hg
  · have hg0 := hg
    obtain ⟨vo, vr, rfl, ho, hr⟩ := hg
    obtain ⟨ao, co, rfl, hlo⟩ := ho.slice
    obtain ⟨ar, cr, rfl, hlr⟩ := hr.slice
    have Hg := Lib.hid hg0
    have HG := Lib.hid hG
    clear ho hr hg0 hG
    have hM0 := (Mem.start w).alloc #[.slice ao g.objs.length co, .slice ar g.roots.length cr] 25
    go_enter Try.func3, Try.ntmps3
    go_wp2_with fail
    refine (good_no _ g _ (Hg.out.later hM0.below) HG.out).mono ?_
    rintro e w1 ⟨rfl, hb⟩
    have hM1 := hM0.call hb
    have p0 : w1.cell? ⟨w.heap.size, 0, none⟩ = some (.slice ao g.objs.length co) := by have := hM1.cell 0 rfl 0; simpa using this
    have p1 : w1.cell? ⟨w.heap.size, 1, none⟩ = some (.slice ar g.roots.length cr) := by have := hM1.cell 0 rfl 1; simpa using this
    go_wp2_with fail
    refine (refused_yes _ g _ (Hg.out.later hM1.below) HG.out).mono ?_
    rintro e w2 ⟨rfl, hb2⟩
    have hM2 := hM1.call hb2
    go_wp2
    go_ret
    exact ⟨rfl, hM2.below⟩
end Go.Proofs.Ytjeaaiklbefmmaa
