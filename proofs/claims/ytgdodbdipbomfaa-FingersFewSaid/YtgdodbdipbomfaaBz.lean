/- ragpickerref.Order, walked: what is found, in order. -/
import Derived.Test.YtgdodbdipbomfaaBase3
import Derived.Test.YtgdodbdipbomfaaBase1
import Derived.Deep.QuietTactic
namespace Go.Proofs.Ytgdodbdipbomfaa
open Go.RowKit Go.Shelf

theorem tks_fits {g : G} (h : Fits g) {F : List Int} (hF : OrdS g F) {P : List Int} (hP : P <+: F) : P.length ≤ 1000 ∧ ∀ x ∈ P, i64ok x := by
  have h1 := hF.rng h.rng
  have h2 := nodup_sub_len F (upTo g.objs.length) hF.nodup (fun x hx => mem_upTo.2 (h1 x hx))
  rw [upTo_len] at h2
  have h3 := hP.length_le
  have h4 := h.objs
  refine ⟨by omega, fun x hx => ?_⟩
  have := h1 x (hP.subset hx)
  unfold i64ok; omega
theorem tks_take (P l : List Int) {m : List Int} (h : m <+: l) : tks P m <+: tks P l := by
  obtain ⟨t, rfl⟩ := h
  rw [tks_append]; exact tks_prefix _ _
theorem targets_step {l : List V} {k : Nat} {r : Bool} {n : Int} (h : l[k]? = some ⟨r, n⟩) (P : List Int) : tks P (targets (l.take (k + 1))) = if r = true then tk (tks P (targets (l.take k))) n else tks P (targets (l.take k)) := by
  rw [targets_succ (take_succ_some _ _ _ h)]
  cases r with
  | false => simp
  | true => simp [tks_append]; rfl

set_option maxRecDepth 100000 in
set_option maxHeartbeats 4000000 in
theorem order_any (g : G) (hG : Fits g) (F : List Int) (hF : OrdS g F) (v : Value) (w : World) (hg : IsGraph w v g) :
    Calls Try.prog 68 #[v] w fun e w' => ∃ r, e = .returned r ∧ Mem w.heap.size w w' [rowI 3 r F] := by
  obtain ⟨vo, vr, rfl, ho, hr⟩ := hg
  have Ho := Lib.hid ho
  have Hr := Lib.hid hr
  obtain ⟨ao, co, rfl, _⟩ := ho.slice
  obtain ⟨ar, cr, rfl, _⟩ := hr.slice
  have HG := Lib.hid hG
  have HF := Lib.hid hF
  have hrl := hG.roots
  have hol := hG.objs
  obtain ⟨n, hn⟩ : ∃ n, g.roots.length = n := ⟨_, rfl⟩
  obtain ⟨no, hno⟩ : ∃ no, g.objs.length = no := ⟨_, rfl⟩
  rw [hn] at hrl ⊢
  rw [hno] at hol ⊢
  have Hn := Lib.hid hn
  have Hno := Lib.hid hno
  have HM0 := Lib.hid (((Mem.start w).alloc #[.slice ao no co, .slice ar n cr] 36).nilI 3)
  clear ho hr hG hF hn hno
  go_enter Try.func68, Try.ntmps68
  go_wp2
  go_loopw [3, 12] (fun r i wr => ∃ k : Nat, k ≤ n ∧ i = .int .i64 k ∧ Mem w.heap.size w wr [rowI 3 r (tks [] (targets (g.roots.take k))), ebox w.heap.size #[.slice ao no co, .slice ar n cr] 36]) (fun _ i _ => n - (intOf i).toNat)
  case atStart => exact ⟨0, Nat.zero_le _, rfl, HM0.out⟩
  case round =>
    clear HM0
    obtain ⟨k, hk, rfl, hM⟩ := hrel
    by_cases hlt : k < n
    · obtain ⟨y, hx⟩ := get_some g.roots k (by rw [Hn.out]; exact hlt)
      obtain ⟨bl, off, cap2, hv, hb, hn2, c1, c2, hi⟩ := Hr.out.at hM.below hx
      rw [Hn.out] at hv
      cases hv
      have hpre : tks [] (targets (g.roots.take k)) <+: F := (tks_take [] _ (targets_prefix _ _)).trans (HF.out.pre (Nat.zero_le _))
      obtain ⟨hPl, hP64⟩ := tks_fits HG.out HF.out hpre
      obtain ⟨r, m⟩ := y
      have HS := Lib.hid (targets_step hx [])
      obtain ⟨P, hP⟩ : ∃ P, tks [] (targets (g.roots.take k)) = P := ⟨_, rfl⟩
      rw [hP] at hM hPl hP64 HS
      have HM := Lib.hid hM
      cases r
      · clear hM hx hpre hi hP hP64
        go_wp2
        go_roundw
        case rel => exact ⟨k + 1, by omega, by go_num, by rw [HS.out]; exact HM.out.alloc_ _⟩
        case measure => simp [intOf]; omega
      · have hI := isInts_of_own (hM.ownI 0 rfl) (by omega) hP64
        obtain ⟨aP, cP, rfl, _⟩ := hI.slice
        have hB := (hM.alloc_ (.cells #[.bool true, .int .i64 m] 96)).below
        have hI2 : IsInts (wr.alloc (.cells #[.bool true, .int .i64 m] 96)) _ P := hI.later ((Below.refl _ _).alloc (Nat.le_refl _) _)
        have HPl : Hid (P.length ≤ 1000000) := Lib.hid (by omega)
        obtain ⟨p, hp⟩ : ∃ p, P.length = p := ⟨_, rfl⟩
        have Hp := Lib.hid hp
        by_cases hin : m ∈ P
        · have HH := Lib.hid (has_yes _ P m _ hI2 hin)
          rw [if_pos rfl, tk_old hin] at HS
          rw [hp] at HH ⊢
          clear hM hx hpre hi hP hP64 hI hI2 hB hin hp hPl
          go_wp2_with fail
          refine HH.out.mono ?_
          rintro e w5 ⟨rfl, rfl⟩
          rw [Hp.out] at HM
          clear HH
          go_wp2
          go_roundw
          case rel => exact ⟨k + 1, by omega, by go_num, by rw [HS.out]; exact HM.out.alloc_ _⟩
          case measure => simp [intOf]; omega
        · have HH := Lib.hid (has_no _ P m _ hI2 hin)
          rw [if_pos rfl, tk_new hin] at HS
          rw [hp] at HH ⊢
          rw [hp] at HM
          clear hM hx hpre hi hP hP64 hI hI2 hB hin hp hPl
          go_wp2_with fail
          refine HH.out.mono ?_
          rintro e w5 ⟨rfl, rfl⟩
          clear HH
          go_wp2_with (at_builtin; refine Mem.wp_appI elemInts rfl (.tmp 25) (.tmp 28) rfl (HM.out.alloc_ _) 0 rfl rfl _ m _ _ rfl (by simp) HPl.out ?_; intro ad n1 cp w6 hn1 hM6 hs6 hk6 ha6)
          go_roundw
          case rel => exact ⟨k + 1, by omega, by go_num, by rw [HS.out]; exact hM6⟩
          case measure => simp [intOf]; omega
    · obtain rfl : k = n := by omega
      rw [show g.roots.take k = g.roots by rw [← Hn.out, List.take_length], show tks [] (targets g.roots) = ordAt g 0 from rfl] at hM
      obtain ⟨nf, hnf⟩ : ∃ nf, F.length = nf := ⟨_, rfl⟩
      have Hnf := Lib.hid hnf
      have HM := Lib.hid hM
      clear hM hnf
      go_wp2
      go_loopw [3, 6] (fun r i wr => ∃ kk : Nat, kk ≤ nf ∧ i = .int .i64 kk ∧ Mem w.heap.size w wr [rowI 3 r (ordAt g kk), ebox w.heap.size #[.slice ao no co, .slice ar k cr] 36]) (fun _ i _ => nf - (intOf i).toNat)
      case atStart => exact ⟨0, Nat.zero_le _, rfl, HM.out⟩
      case round =>
        clear HM
        obtain ⟨j, hj, rfl, hM⟩ := hrel
        have hpre := HF.out.pre (show j ≤ F.length by rw [Hnf.out]; exact hj)
        obtain ⟨hPl, hP64⟩ := tks_fits HG.out HF.out hpre
        obtain ⟨P, hP⟩ : ∃ P, ordAt g j = P := ⟨_, rfl⟩
        rw [hP] at hM hPl hP64 hpre
        have hI := isInts_of_own (hM.ownI 0 rfl) (by omega) hP64
        obtain ⟨aP, cP, rfl, _⟩ := hI.slice
        by_cases hlt2 : j < nf
        · have hjP := HF.out.2 j (by rw [Hnf.out]; exact hlt2)
          rw [hP] at hjP
          obtain ⟨x, hx⟩ := get_some P j hjP
          have hxr := HF.out.rng HG.out.rng x (hpre.subset (List.mem_of_getElem? hx))
          rw [Hno.out] at hxr
          obtain ⟨b1, o1, cp1, hv, _, g1, d1, _⟩ := hI.at (Below.refl _ _) hx
          cases hv
          obtain ⟨xN, rfl⟩ : ∃ xN : Nat, x = xN := ⟨x.toNat, by omega⟩
          obtain ⟨o, hob⟩ := get_some g.objs xN (by rw [Hno.out]; omega)
          obtain ⟨b2, o2, cp2, u, hv, _, g2, d2, hu⟩ := Ho.out.at hM.below hob
          rw [Hno.out] at hv
          cases hv
          have hlo := HG.out.fields o (List.mem_of_getElem? hob)
          have hfa : fieldsAt g (xN : Int) = o := by
            unfold fieldsAt
            rw [List.getD_eq_getElem?_getD, Int.toNat_natCast, hob]; rfl
          have hnx : ordAt g (j + 1) = tks P (targets o) := by
            show tks (ordAt g j) (targets (fieldsAt g ((ordAt g j).getD j 0))) = _
            rw [hP, List.getD_eq_getElem?_getD, hx, Option.getD_some, hfa]
          have hpre2 := HF.out.pre (show j + 1 ≤ F.length by rw [Hnf.out]; omega)
          rw [hnx] at hpre2
          have e0 : wr.cell? ⟨w.heap.size, 0, none⟩ = some (.slice (some ⟨b2, o2, none⟩) no co) := by have := hM.cell 1 rfl 0; simpa using this
          have ez : w.heap.size < wr.heap.size := (hM.box 1 rfl).2.1
          have Hu := Lib.hid hu
          obtain ⟨au, cu, rfl, _⟩ := hu.slice
          have Hnx := Lib.hid hnx
          have Hpre2 := Lib.hid hpre2
          have HM := Lib.hid hM
          have hBr := hM.below
          have HBr := Lib.hid hBr
          obtain ⟨m, hm⟩ : ∃ m, o.length = m := ⟨_, rfl⟩
          rw [hm] at d2 hlo
          have Hm := Lib.hid hm
          obtain ⟨p, hp⟩ : ∃ p, P.length = p := ⟨_, rfl⟩
          rw [hp] at hjP ⊢
          rw [hp] at HM
          have hxn : xN < no := by omega
          have hj1000 : j ≤ 1000 := by omega
          clear hM hI hPl hP64 hpre hP hx hob hu hfa hnx hpre2 hBr hm hp hxr
          go_wp2
          go_quiet (fail)
          have hMq := HM.out.drewN nq
          have HMq := Lib.hid hMq
          clear hMq HM e0 ez d1 d2 g1 g2
          go_wp2
          go_loopw [3, 47] (fun r i w8 => ∃ q : Nat, q ≤ m ∧ i = .int .i64 q ∧ Mem w.heap.size w w8 [rowI 3 r (tks P (targets (o.take q))), ebox w.heap.size #[.slice (some ⟨b2, o2, none⟩) no co, .slice ar k cr] 36]) (fun _ i _ => m - (intOf i).toNat)
          case atStart => exact ⟨0, Nat.zero_le _, rfl, HMq.out⟩
          case round =>
            clear HMq
            obtain ⟨q, hq, rfl, hM⟩ := hrel
            by_cases hlt3 : q < m
            · obtain ⟨y, hx⟩ := get_some o q (by rw [Hm.out]; exact hlt3)
              obtain ⟨bl, off, cap2, hv, hb, hn2, c1, c2, hi⟩ := Hu.out.at hM.below hx
              rw [Hm.out] at hv
              cases hv
              have hpreq : tks P (targets (o.take q)) <+: F := (tks_take P _ (targets_prefix _ _)).trans Hpre2.out
              obtain ⟨hPl, hP64⟩ := tks_fits HG.out HF.out hpreq
              obtain ⟨r, mm⟩ := y
              have HS := Lib.hid (targets_step hx P)
              obtain ⟨P2, hP2⟩ : ∃ P2, tks P (targets (o.take q)) = P2 := ⟨_, rfl⟩
              rw [hP2] at hM hPl hP64 HS
              have HM := Lib.hid hM
              cases r
              · clear hM hx hpreq hi hP2 hP64
                go_wp2
                go_roundw
                case rel => exact ⟨q + 1, by omega, by go_num, by rw [HS.out]; exact HM.out.alloc_ _⟩
                case measure => simp [intOf]; omega
              · have hI := isInts_of_own (hM.ownI 0 rfl) (by omega) hP64
                obtain ⟨aQ, cQ, rfl, _⟩ := hI.slice
                have hI2 : IsInts (wr.alloc (.cells #[.bool true, .int .i64 mm] 96)) _ P2 := hI.later ((Below.refl _ _).alloc (Nat.le_refl _) _)
                have HPl : Hid (P2.length ≤ 1000000) := Lib.hid (by omega)
                obtain ⟨p2, hp2⟩ : ∃ p2, P2.length = p2 := ⟨_, rfl⟩
                by_cases hin : mm ∈ P2
                · have HH := Lib.hid (has_yes _ P2 mm _ hI2 hin)
                  rw [if_pos rfl, tk_old hin] at HS
                  rw [hp2] at HH HM ⊢
                  clear hM hx hpreq hi hP2 hP64 hI hI2 hin hp2 hPl
                  go_wp2_with fail
                  refine HH.out.mono ?_
                  rintro e w5 ⟨rfl, rfl⟩
                  clear HH
                  go_wp2
                  go_roundw
                  case rel => exact ⟨q + 1, by omega, by go_num, by rw [HS.out]; exact HM.out.alloc_ _⟩
                  case measure => simp [intOf]; omega
                · have HH := Lib.hid (has_no _ P2 mm _ hI2 hin)
                  rw [if_pos rfl, tk_new hin] at HS
                  rw [hp2] at HH HM ⊢
                  clear hM hx hpreq hi hP2 hP64 hI hI2 hin hp2 hPl
                  go_wp2_with fail
                  refine HH.out.mono ?_
                  rintro e w5 ⟨rfl, rfl⟩
                  clear HH
                  go_wp2_with (at_builtin; refine Mem.wp_appI elemInts rfl (.tmp 60) (.tmp 63) rfl (HM.out.alloc_ _) 0 rfl rfl _ mm _ _ rfl (by simp) HPl.out ?_; intro ad n1 cp w6 hn1 hM6 hs6 hk6 ha6)
                  go_roundw
                  case rel => exact ⟨q + 1, by omega, by go_num, by rw [HS.out]; exact hM6⟩
                  case measure => simp [intOf]; omega
            · obtain rfl : q = m := by omega
              rw [show o.take q = o by rw [← Hm.out, List.take_length], ← Hnx.out] at hM
              have HM := Lib.hid hM
              clear hM
              go_wp2
              go_roundw
              case rel => exact ⟨j + 1, by omega, by go_num, HM.out⟩
              case measure => simp [intOf]; omega
        · obtain rfl : j = nf := by omega
          have hPF : P = F := by rw [← hP, ← Hnf.out]; exact HF.out.1
          rw [hPF] at hM ⊢
          rw [Hnf.out] at hM ⊢
          have HM := Lib.hid hM
          clear hM hI hPl hP64 hpre hP hPF
          go_wp2
          go_ret
          exact ⟨_, rfl, HM.out.drop (List.Sublist.cons_cons _ (List.nil_sublist _))⟩
end Go.Proofs.Ytgdodbdipbomfaa
