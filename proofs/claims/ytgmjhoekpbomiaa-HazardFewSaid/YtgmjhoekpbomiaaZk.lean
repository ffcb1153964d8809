/- retired, fates: walked. -/
import Derived.Test.YtgmjhoekpbomiaaZf
namespace Go.Proofs.Ytgmjhoekpbomiaa
open Go.RowKit

theorem retired_any (v u : Value) (l : List Deed) (c : List Int) (kind : Int) (w : World) (hl : IsTup 3 encD w v l) (hc : IsInts w u c) (hlen : l.length = c.length) (hsm : l.length ≤ 1000) (h64 : ∀ x ∈ retiredTo l c kind l.length, i64ok x) :
    Calls Try.prog 14 #[v, u, .int .i64 kind] w fun e w' => ∃ r, e = .returned r ∧ IsInts w' r (retiredTo l c kind l.length) ∧ Below w.heap.size w w' := by
  have Hl := Lib.hid hl
  have Hc := Lib.hid hc
  have H64 := Lib.hid h64
  have Hlen := Lib.hid hlen
  obtain ⟨a, cap, rfl, hm⟩ := hl.slice
  obtain ⟨a', cap', rfl, hm'⟩ := hc.slice
  clear hl hc h64 hlen
  go_enter Try.func14, Try.ntmps14
  go_wp2
  go_loopw [7, 12] (fun r i wr => ∃ k : Nat, k ≤ l.length ∧ i = .int .i64 k ∧ Mem w.heap.size w wr [rowI 3 r (retiredTo l c kind k)]) (fun _ i _ => l.length - (intOf i).toNat)
  case atStart => exact ⟨0, Nat.zero_le _, rfl, (Mem.start w).nilI _⟩
  case round =>
    obtain ⟨k, hk, rfl, hM⟩ := hrel
    by_cases hlt : k < l.length
    · obtain ⟨d, hd⟩ := get_some _ _ hlt
      obtain ⟨x, hx⟩ := get_some c k (by have := Hlen.out; omega)
      have hlc : k < c.length := by have := Hlen.out; omega
      obtain ⟨b, off, cap2, hv, _, hn, hcells⟩ := Hl.out.at hM.below hd
      cases hv
      have h1 := hcells 0 _ rfl
      have h2 := hcells 1 _ rfl
      have h3 := hcells 2 _ rfl
      rw [Nat.add_zero] at h1
      obtain ⟨b', off', cap3, hv, _, hn', h4, _⟩ := Hc.out.at hM.below hx
      cases hv
      have hle := retiredTo_le l c kind k
      have HS := Lib.hid (retiredTo_succ l c kind k d x hd hx)
      have HM := Lib.hid (hM.alloc_ (.cells #[.int .i64 d.kind, .int .i64 d.who, .int .i64 d.item] 34))
      clear hd hx hcells hM
      by_cases hkd : d.kind = kind
      · have e1 : (d.kind == kind) = true := by simp [hkd]
        by_cases hx0 : x = 0
        · subst hx0
          have HE := Lib.hid (HS.out.trans (by rw [if_pos ⟨hkd, rfl⟩]))
          clear HS hkd
          go_wp2_with (at_builtin; refine Mem.wp_app1 elemInts rfl (.tmp 28) (.tmp 31) rfl HM.out 0 rfl rfl _ #[.int .i64 d.item] _ _ rfl (by simp) rfl rfl (by decide) (by omega) ?_; intro ad cp w1 hM3 hs1 hk1 hn1)
          go_roundw
          case rel => exact ⟨k + 1, by omega, by go_num, hM3.cast (by rw [HE.out]; simp [rowI])⟩
          case measure => simp [intOf]; omega
        · have HE := Lib.hid (HS.out.trans (by rw [if_neg (by simp [hx0]), List.append_nil]))
          have e2 : (x == 0) = false := by simp [hx0]
          clear HS hkd hx0
          go_wp2
          go_roundw
          case rel => exact ⟨k + 1, by omega, by go_num, by rw [HE.out]; exact HM.out⟩
          case measure => simp [intOf]; omega
      · have HE := Lib.hid (HS.out.trans (by rw [if_neg (by simp [hkd]), List.append_nil]))
        have e1 : (d.kind == kind) = false := by simp [hkd]
        clear HS hkd
        go_wp2
        go_roundw
        case rel => exact ⟨k + 1, by omega, by go_num, by rw [HE.out]; exact HM.out⟩
        case measure => simp [intOf]; omega
    · obtain rfl : k = l.length := by omega
      have hle := retiredTo_le l c kind l.length
      have HR := Lib.hid (isInts_of_own (hM.ownI 0 rfl) (by omega) H64.out)
      have HB := Lib.hid hM.below
      clear hM
      go_wp2
      go_ret
      exact ⟨_, rfl, HR.out, HB.out⟩
theorem count_succ {l : List Int} {k : Nat} {y : Int} (h : l[k]? = some y) (x : Int) : (l.take (k + 1)).count x = (l.take k).count x + if x = y then 1 else 0 := by
  rw [take_succ_some _ _ _ h, List.count_append, List.count_singleton]
  by_cases e : x = y
  · simp [e]
  · have : y ≠ x := fun h => e h.symm
    simp [e, this]
set_option maxRecDepth 100000 in
set_option maxHeartbeats 1000000 in
theorem fates_any (rv cv fv wv : Value) (R W : List Int) (F : List (Int × Int)) (w : World) (hr : IsInts w rv R) (hf : IsTup 2 encF w fv F) (hw : IsInts w wv W) (hcv : ∃ a n c, cv = .slice a n c) (hF : F.length ≤ 1000) (hW : W.length ≤ 1000) (hp : (F.map (·.1) ++ W).Perm R) (h64 : ∀ x ∈ R, i64ok x) :
    Calls Try.prog 13 #[rv, .agg #[cv, fv, wv]] w fun e w' => e = .returned (.bool true) ∧ Below w.heap.size w w' := by
  have Hr := Lib.hid hr
  have Hf := Lib.hid hf
  have Hw := Lib.hid hw
  have Hp := Lib.hid hp
  have hlen : F.length + W.length = R.length := by have := hp.length_eq; simpa using this
  obtain ⟨ar, cr, rfl, hm⟩ := hr.slice
  obtain ⟨af, cf, rfl, hm'⟩ := hf.slice
  obtain ⟨aw, cw, rfl, hm''⟩ := hw.slice
  obtain ⟨ac, nc, cc, rfl⟩ := hcv
  have h64' : ∀ x ∈ F.map (·.1) ++ W, i64ok x := fun x hx => h64 x (hp.mem_iff.1 hx)
  have H64 := Lib.hid h64'
  have HM0 := Lib.hid (((Mem.start w).alloc #[.slice ac nc cc, .slice af F.length cf, .slice aw W.length cw] 27).nilI 3)
  clear hr hf hw hp h64 h64'
  go_enter Try.func13, Try.ntmps13
  go_wp2
  go_loopw [5, 18] (fun r i wr => ∃ k : Nat, k ≤ F.length ∧ i = .int .i64 k ∧ Mem w.heap.size w wr [rowI 3 r ((F.take k).map (·.1)), ebox w.heap.size #[.slice ac nc cc, .slice af F.length cf, .slice aw W.length cw] 27]) (fun _ i _ => F.length - (intOf i).toNat)
  case atStart => exact ⟨0, Nat.zero_le _, rfl, HM0.out⟩
  case round =>
    clear HM0
    obtain ⟨k, hk, rfl, hM⟩ := hrel
    by_cases hlt : k < F.length
    · obtain ⟨d, hd⟩ := get_some _ _ hlt
      obtain ⟨b, off, cap2, hv, _, hn, hcells⟩ := Hf.out.at hM.below hd
      cases hv
      have h1 := hcells 0 _ rfl
      have h2 := hcells 1 _ rfl
      rw [Nat.add_zero] at h1
      have HS := Lib.hid (take_succ_some _ _ _ hd)
      have HM := Lib.hid (hM.alloc_ (.cells #[.int .i64 d.1, .int .i64 d.2] 32))
      have hln : ((F.take k).map (·.1)).length ≤ 1000000 := by rw [List.length_map, List.length_take]; omega
      clear hd hcells hM
      go_wp2_with (at_builtin; refine Mem.wp_app1 elemInts rfl (.tmp 22) (.tmp 25) rfl HM.out 0 rfl rfl _ #[.int .i64 d.1] _ _ rfl (by simp) rfl rfl (by decide) hln ?_; intro ad cp w1 hM3 hs1 hk1 hn1)
      go_roundw
      case rel => exact ⟨k + 1, by omega, by go_num, hM3.cast (by rw [HS.out]; simp [rowI, Nat.min_eq_left hk])⟩
      case measure => simp [intOf]; omega
    · obtain rfl : k = F.length := by omega
      rw [List.take_length] at hM
      have c2 : wr.cell? ⟨w.heap.size, 2, none⟩ = some (.slice aw W.length cw) := by have := hM.cell 1 rfl 2; simpa using this
      have HWr := Lib.hid (Hw.out.later hM.below)
      have HM := Lib.hid hM
      obtain ⟨a0, n0, c0, hu5⟩ := own_slice (hM.row 0 rfl)
      subst hu5
      clear hM
      obtain ⟨all, hall⟩ : ∃ all, F.map (·.1) ++ W = all := ⟨_, rfl⟩
      have hN : all.length = R.length := by rw [← hall]; simpa using hlen
      go_wp2_with (at_builtin; refine Mem.wp_appIs elemInts rfl (.tmp 28) (.tmp 30) rfl HM.out 0 rfl rfl rfl HWr.out (by simp; omega) ?_; intro v6 w6 hM6 hs6 hk6; have hI := isInts_of_own (hM6.ownI 0 rfl) (by simp; omega) H64.out; rw [hall] at hI; obtain ⟨a6, c6, rfl, hl6⟩ := hI.slice; rw [hN] at hI; rw [hN]; have HI := Lib.hid hI; have HR6 := Lib.hid (Hr.out.later hM6.below); have HB6 := Lib.hid hM6.below; clear hM6 hI hk6)
      rw [hall] at Hp
      have qn : ((R.length : Int) != (R.length : Int)) = false := by simp
      clear HM HWr c2 hall
      go_wp2
      go_loopw [39] (fun i wr => ∃ k : Nat, k ≤ R.length ∧ i = .int .i64 k ∧ w6 = wr) (fun i _ => R.length - (intOf i).toNat)
      case atStart => exact ⟨0, Nat.zero_le _, rfl, rfl⟩
      case round =>
        obtain ⟨k, hk, rfl, rfl⟩ := hrel
        by_cases hlt2 : k < R.length
        · obtain ⟨x, hx⟩ := get_some _ _ hlt2
          obtain ⟨b, off, cap3, hv, _, hn, h1, _⟩ := HR6.out.at (Below.refl _ _) hx
          cases hv
          clear hx
          go_wp2
          go_loopw [10, 45] (fun n i wr => ∃ j : Nat, j ≤ R.length ∧ i = .int .i64 j ∧ n = .int .i64 (((R.take j).count x : Nat) : Int) ∧ w6 = wr) (fun _ i _ => R.length - (intOf i).toNat)
          case atStart => exact ⟨0, Nat.zero_le _, rfl, by simp, rfl⟩
          case round =>
            obtain ⟨j, hj, rfl, rfl, rfl⟩ := hrel
            have hcj : (R.take j).count x ≤ R.length := Nat.le_trans List.count_le_length (List.length_take_le' _ _)
            by_cases hlt3 : j < R.length
            · obtain ⟨y, hy⟩ := get_some _ _ hlt3
              obtain ⟨b2, off2, cap4, hv, _, hn2, h2, _⟩ := HR6.out.at (Below.refl _ _) hy
              cases hv
              have HS := Lib.hid (count_succ hy x)
              clear hy
              by_cases hxy : x = y
              · have e1 : (x == y) = true := by simp [hxy]
                have HE := Lib.hid (HS.out.trans (by rw [if_pos hxy]))
                clear HS hxy
                go_wp2
                go_roundw
                case rel => exact ⟨j + 1, by omega, by go_num, by rw [HE.out]; simp, trivial⟩
                case measure => simp [intOf]; omega
              · have e1 : (x == y) = false := by simp [hxy]
                have HE := Lib.hid (HS.out.trans (by rw [if_neg hxy, Nat.add_zero]))
                clear HS hxy
                go_wp2
                go_roundw
                case rel => exact ⟨j + 1, by omega, by go_num, by rw [HE.out], trivial⟩
                case measure => simp [intOf]; omega
            · obtain rfl : j = R.length := by omega
              rw [List.take_length] at hcj ⊢
              have hca : ∀ j, (all.take j).count x ≤ R.length := fun j => by have := (List.take_sublist j all).count_le x; have := (Hp.out.count_eq x); omega
              go_wp2
              go_loopw [10, 57] (fun n i wr => ∃ j : Nat, j ≤ R.length ∧ i = .int .i64 j ∧ n = .int .i64 (((R.count x : Nat) : Int) - (((all.take j).count x : Nat) : Int)) ∧ w6 = wr) (fun _ i _ => R.length - (intOf i).toNat)
              case atStart => exact ⟨0, Nat.zero_le _, rfl, by simp, rfl⟩
              case round =>
                obtain ⟨j, hj, rfl, rfl, rfl⟩ := hrel
                have hcj2 := hca j
                by_cases hlt3 : j < R.length
                · obtain ⟨y, hy⟩ := get_some all j (by omega)
                  obtain ⟨b2, off2, cap4, hv, _, hn2, h2, _⟩ := HI.out.at (Below.refl _ _) hy
                  rw [hN] at hv
                  cases hv
                  have HS := Lib.hid (count_succ hy x)
                  clear hy hca
                  by_cases hxy : x = y
                  · have e1 : (x == y) = true := by simp [hxy]
                    have HE := Lib.hid (HS.out.trans (by rw [if_pos hxy]))
                    clear HS hxy
                    go_wp2
                    go_roundw
                    case rel => exact ⟨j + 1, by omega, by go_num, by rw [HE.out]; simp; omega, trivial⟩
                    case measure => simp [intOf]; omega
                  · have e1 : (x == y) = false := by simp [hxy]
                    have HE := Lib.hid (HS.out.trans (by rw [if_neg hxy, Nat.add_zero]))
                    clear HS hxy
                    go_wp2
                    go_roundw
                    case rel => exact ⟨j + 1, by omega, by go_num, by rw [HE.out], trivial⟩
                    case measure => simp [intOf]; omega
                · obtain rfl : j = R.length := by omega
                  have h0 : (R.count x : Int) - (((all.take R.length).count x : Nat) : Int) = 0 := by
                    rw [← hN, List.take_length, Hp.out.count_eq x]; omega
                  rw [h0]
                  clear hca hcj hcj2 h0
                  go_wp2
                  go_roundw
                  case rel => exact ⟨k + 1, by omega, by go_num, trivial⟩
                  case measure => simp [intOf]; omega
        · obtain rfl : k = R.length := by omega
          go_wp2
          go_ret
          exact ⟨rfl, HB6.out⟩
end Go.Proofs.Ytgmjhoekpbomiaa
