/- Epoch: Play, walked. -/
import Derived.Test.YtgmjhoekpbomiaaYk
import Derived.Test.YtgmjhoekpbomiaaRe
import Derived.Test.YtgmjhoekpbomiaaZl
namespace Go.Proofs.Ytgmjhoekpbomiaa
open Go.RowKit

def EPlaySays (T : Nat) (l : List Deed) (w w' : World) (e : Ending) : Prop :=
  ∃ cv fv wv, e = .returned (.tuple #[.agg #[cv, fv, wv], .int .i64 0]) ∧ Mem w.heap.size w w' [rowI 28 cv (ecodes T l l.length), rowT 32 2 encF fv (est T l l.length).freed, rowI 3 wv ((est T l l.length).waits.map (·.1))]
theorem eOk_of {T : Nat} {l : List Deed} {k : Nat} (hk : k ≤ l.length) (hl : l.length ≤ 100) (hT4 : T ≤ 4) : EOk (est T l k) := by
  have hi := est_inv T l k hk
  have h1 := hi.perm.length_eq
  have h2 := retiredTo_le l (ecodes T l l.length) 3 k
  have hep := hi.ep
  simp only [List.length_append, List.length_map] at h1
  refine ⟨⟨hep.1, by omega⟩, by rw [hi.thl]; exact hT4, fun x hx => ?_, by omega, by omega⟩
  obtain ⟨i, hx⟩ := List.mem_iff_getElem?.1 hx
  have hil := (List.getElem?_eq_some_iff.1 hx).1
  have h3 := hi.th i (by rw [← hi.thl]; exact hil)
  rw [List.getD_eq_getElem?_getD, hx] at h3
  simp only [Option.getD_some] at h3
  unfold i64ok; omega
theorem step_to {B : Nat} {w0 w' : World} {Bw : Nat} {tv : Value} {T : Nat} {s : ES} {d : Deed} {k : Int} {L' : List Ent} {e : Ending} (h : StepSays B w0 Bw tv s k L' w' e) (hd : d.kind = 4) :
    e = .returned (.int .i64 (estep T s d k).2) ∧ ∃ wv fv, Mem B w0 w' (ownS Bw tv wv fv (estep T s d k).1 ++ L') := by
  unfold StepSays at h
  unfold estep
  rw [if_pos hd]
  by_cases hb : ebusy s = true
  · rw [if_pos hb] at h ⊢; exact h
  · rw [if_neg hb] at h ⊢; exact h
set_option maxRecDepth 100000 in
set_option maxHeartbeats 4000000 in
theorem eplay_yes (T : Nat) (hT1 : 1 ≤ T) (hT4 : T ≤ 4) (v : Value) (l : List Deed) (w : World) (hl : IsTup 3 encD w v l) (hl100 : l.length ≤ 100) :
    Calls Try.prog 15 #[.int .i64 T, v] w fun e w' => EPlaySays T l w w' e := by
  have Hl := Lib.hid hl
  obtain ⟨al, cl, rfl, hlm⟩ := hl.slice
  have hM0 := (Mem.start w).alloc #[.slice none 0 0, .slice none 0 0, .slice none 0 0] 27
  have HM1 := Lib.hid (hM0.alloc_ (.cells #[.int .i64 (-1)] 3))
  have HI : Hid (IsInts _ _ _) := Lib.hid (isInts_one (w.alloc (.cells #[.slice none 0 0, .slice none 0 0, .slice none 0 0] 27)) (-1) 3 (by unfold i64ok; omega))
  have hz0 : (w.alloc (.cells #[.slice none 0 0, .slice none 0 0, .slice none 0 0] 27)).heap.size = w.heap.size + 1 := by simp
  rw [hz0] at HI
  clear hl hM0 hz0
  go_enter Try.func15, Try.ntmps15
  have q1 : decide ((T : Int) < 1) = false := decide_eq_false (by omega)
  have q2 : decide ((T : Int) > 4) = false := decide_eq_false (by omega)
  have q3 : decide ((l.length : Int) > 100) = false := decide_eq_false (by omega)
  go_wp2_with fail
  clear q1 q2 q3
  refine (repeat_any _ (-1) T (by omega) _ HI.out).mono ?_
  rintro e w3 ⟨vl, rfl, hM3⟩
  have hM4 := HM1.out.callMem hM3
  obtain ⟨gt, ct, hvl, _⟩ := hM3.intsAt 0 rfl (by intro h; have := congrArg List.length h; simp at this; omega)
  rw [List.length_replicate] at hvl
  subst hvl
  obtain ⟨Bw, hBw⟩ : ∃ Bw, w3.heap.size = Bw := ⟨_, rfl⟩
  have hM5 := hM4.alloc #[.int .i64 0, .slice (some ⟨gt, 0, none⟩) T ct, .slice none 0 0, .slice none 0 0] 71
  have hM6 := ((((hM5.nilT 75 2 encF).nilT 32 2 encF).alloc #[.slice none 0 0, .slice none 0 0, .slice none 0 0] 27).nilI 28).nilI 3
  have hz : (w3.alloc (.cells #[.int .i64 0, .slice (some ⟨gt, 0, none⟩) T ct, .slice none 0 0, .slice none 0 0] 71)).heap.size = Bw + 1 := by rw [← hBw]; simp
  rw [hz, hBw] at hM6
  have hM7 : Mem w.heap.size w _ (ownS Bw (.slice (some ⟨gt, 0, none⟩) T ct) (.slice none 0 0) (.slice none 0 0) (est T l 0) ++ outL (Bw + 1) w.heap.size (.slice none 0 0) (.slice none 0 0) (.slice none 0 0) (ecodes T l 0) []) := hM6.pick0 [5, 6, 4, 3, 2, 1, 0, 7] (by decide) rfl
  have HM7 := Lib.hid hM7
  have HBw := Lib.hid hBw
  clear HI HM1 hM3 hM4 hM5 hM6 hM7 hBw hz
  go_wp2
  rw [HBw.out]
  clear HBw
  go_loopw [31] (fun i wr => ∃ (k : Nat) (wv fv cv : Value), k ≤ l.length ∧ i = .int .i64 k ∧ Mem w.heap.size w wr (ownS Bw (.slice (some ⟨gt, 0, none⟩) T ct) wv fv (est T l k) ++ outL (Bw + 1) w.heap.size cv (.slice none 0 0) (.slice none 0 0) (ecodes T l k) [])) (fun i _ => l.length - (intOf i).toNat)
  case atStart => exact ⟨0, .slice none 0 0, .slice none 0 0, .slice none 0 0, Nat.zero_le _, rfl, HM7.out⟩
  case round =>
    clear HM7
    obtain ⟨k, wv, fv, cv, hk, rfl, hM⟩ := hrel
    by_cases hlt : k < l.length
    · obtain ⟨d, hd⟩ := get_some _ _ hlt
      obtain ⟨bl, ol, cl2, hv, _, z1, hc⟩ := Hl.out.at hM.below hd
      cases hv
      have d0 := hc 0 _ rfl
      have d1 := hc 1 _ rfl
      have d2 := hc 2 _ rfl
      rw [Nat.add_zero] at d0
      have HMd := Lib.hid (hM.alloc_ (.cells #[.int .i64 d.kind, .int .i64 d.who, .int .i64 d.item] 34))
      have Hi := Lib.hid (est_inv T l k hk)
      have HO := Lib.hid (eOk_of hk hl100 hT4)
      have hcode := ecode_at (T := T) hd
      have hnext := est_succ (T := T) hd
      have Hcl : Hid ((ecodes T l k).length ≤ 1000000) := Lib.hid (by rw [ecodes_len]; omega)
      obtain ⟨s, hs⟩ : ∃ s, est T l k = s := ⟨_, rfl⟩
      rw [hs] at HMd Hi HO hcode hnext
      have Hcode := Lib.hid hcode
      have Hnext := Lib.hid hnext
      have c9 : wr.cell? ⟨Bw + 1, 0, none⟩ = some cv := by have := hM.cell 4 rfl 0; simpa using this
      have z9 : Bw + 1 < wr.heap.size := (hM.box 4 rfl).2.1
      clear hM hc hd hcode hnext hs
      by_cases h4 : d.kind = 4
      · have q1 : (d.kind == 4) = true := by simpa using h4
        have h4' := Lib.hid h4
        clear h4
        go_wp2_with fail
        refine (step_any _ _ _ _ _ _ _ _ k _ HMd.out HO.out).mono ?_
        rintro e w5 hstep
        obtain ⟨rfl, wv2, fv2, hM2⟩ := step_to (T := T) hstep h4'.out
        have HM2 := Lib.hid hM2
        have HN := Hnext
        have HC := Hcode
        clear hstep hM2 HMd Hnext Hcode d0 d1 d2 z1 c9 z9
        have q9 : w5.cell? ⟨Bw + 1, 0, none⟩ = some cv := by have := HM2.out.cell 4 rfl 0; simpa using this
        have z0 : Bw + 1 < w5.heap.size := (HM2.out.box 4 rfl).2.1
        go_wp2_with (at_builtin; refine Mem.wp_appI elemCodes rfl (.tmp 66) (.tmp 68) rfl HM2.out 5 rfl rfl _ (estep T s d k).2 _ _ rfl (by simp) Hcl.out ?_; intro ad n1 cp w6 hn1 hM6 hs6 hk6 ha6; have r1 : w6.frozen? ⟨Bw + 1, 0, none⟩ = false := hM6.free 4 rfl 0; have r2 : w6.cell? ⟨Bw + 1, 0, none⟩ = some cv := (by have := hM6.cell 4 rfl 0; simpa using this))
        go_roundw
        case rel => exact ⟨k + 1, _, _, .slice ad n1 cp, by omega, by go_num, (hM6.setBox 4 rfl 0 (.slice ad n1 cp)).cast (by rw [HN.out, ecodes_succ, HC.out]; rfl)⟩
        case measure => simp [intOf]; omega
      · have q1 : (d.kind == 4) = false := by simpa using h4
        by_cases hk0 : d.kind < 1 ∨ 4 < d.kind
        · have he : estep T s d k = (s, 5) := by unfold estep; rw [if_neg h4, if_pos hk0]
          have hn := Hnext.out
          have hcd := Hcode.out
          rw [he] at hn hcd
          have HN := Lib.hid hn
          have HC := Lib.hid hcd
          have HM2 := HMd
          clear he hn hcd Hnext Hcode h4

          by_cases hk1 : d.kind < 1
          · have q2 : decide (d.kind < 1) = true := decide_eq_true hk1
            clear hk0 hk1
            go_wp2_with (at_builtin; refine Mem.wp_appI elemCodes rfl (.tmp 66) (.tmp 68) rfl HM2.out 5 rfl rfl _ 5 _ _ rfl (by simp) Hcl.out ?_; intro ad n1 cp w6 hn1 hM6 hs6 hk6 ha6; have r1 : w6.frozen? ⟨Bw + 1, 0, none⟩ = false := hM6.free 4 rfl 0; have r2 : w6.cell? ⟨Bw + 1, 0, none⟩ = some cv := (by have := hM6.cell 4 rfl 0; simpa using this))
            go_roundw
            case rel => exact ⟨k + 1, _, _, .slice ad n1 cp, by omega, by go_num, (hM6.setBox 4 rfl 0 (.slice ad n1 cp)).cast (by rw [HN.out, ecodes_succ, HC.out]; rfl)⟩
            case measure => simp [intOf]; omega
          · have q2 : decide (d.kind < 1) = false := decide_eq_false hk1
            have q3 : decide (d.kind > 4) = true := decide_eq_true (by omega)
            clear hk0 hk1
            go_wp2_with (at_builtin; refine Mem.wp_appI elemCodes rfl (.tmp 66) (.tmp 68) rfl HM2.out 5 rfl rfl _ 5 _ _ rfl (by simp) Hcl.out ?_; intro ad n1 cp w6 hn1 hM6 hs6 hk6 ha6; have r1 : w6.frozen? ⟨Bw + 1, 0, none⟩ = false := hM6.free 4 rfl 0; have r2 : w6.cell? ⟨Bw + 1, 0, none⟩ = some cv := (by have := hM6.cell 4 rfl 0; simpa using this))
            go_roundw
            case rel => exact ⟨k + 1, _, _, .slice ad n1 cp, by omega, by go_num, (hM6.setBox 4 rfl 0 (.slice ad n1 cp)).cast (by rw [HN.out, ecodes_succ, HC.out]; rfl)⟩
            case measure => simp [intOf]; omega
        · have q2 : decide (d.kind < 1) = false := decide_eq_false (by omega)
          have q3 : decide (d.kind > 4) = false := decide_eq_false (by omega)
          by_cases hw0 : d.who < 0 ∨ (T : Int) ≤ d.who
          · have he : estep T s d k = (s, 2) := by unfold estep; rw [if_neg h4, if_neg hk0, if_pos hw0]
            have hn := Hnext.out
            have hcd := Hcode.out
            rw [he] at hn hcd
            have HN := Lib.hid hn
            have HC := Lib.hid hcd
            have HM2 := HMd
            clear he hn hcd Hnext Hcode h4

            by_cases hw1 : d.who < 0
            · have q4 : decide (d.who < 0) = true := decide_eq_true hw1
              clear hk0 hw0 hw1
              go_wp2_with (at_builtin; refine Mem.wp_appI elemCodes rfl (.tmp 66) (.tmp 68) rfl HM2.out 5 rfl rfl _ 2 _ _ rfl (by simp) Hcl.out ?_; intro ad n1 cp w6 hn1 hM6 hs6 hk6 ha6; have r1 : w6.frozen? ⟨Bw + 1, 0, none⟩ = false := hM6.free 4 rfl 0; have r2 : w6.cell? ⟨Bw + 1, 0, none⟩ = some cv := (by have := hM6.cell 4 rfl 0; simpa using this))
              go_roundw
              case rel => exact ⟨k + 1, _, _, .slice ad n1 cp, by omega, by go_num, (hM6.setBox 4 rfl 0 (.slice ad n1 cp)).cast (by rw [HN.out, ecodes_succ, HC.out]; rfl)⟩
              case measure => simp [intOf]; omega
            · have q4 : decide (d.who < 0) = false := decide_eq_false hw1
              have q5 : decide (d.who ≥ (T : Int)) = true := decide_eq_true (by omega)
              clear hk0 hw0 hw1
              go_wp2_with (at_builtin; refine Mem.wp_appI elemCodes rfl (.tmp 66) (.tmp 68) rfl HM2.out 5 rfl rfl _ 2 _ _ rfl (by simp) Hcl.out ?_; intro ad n1 cp w6 hn1 hM6 hs6 hk6 ha6; have r1 : w6.frozen? ⟨Bw + 1, 0, none⟩ = false := hM6.free 4 rfl 0; have r2 : w6.cell? ⟨Bw + 1, 0, none⟩ = some cv := (by have := hM6.cell 4 rfl 0; simpa using this))
              go_roundw
              case rel => exact ⟨k + 1, _, _, .slice ad n1 cp, by omega, by go_num, (hM6.setBox 4 rfl 0 (.slice ad n1 cp)).cast (by rw [HN.out, ecodes_succ, HC.out]; rfl)⟩
              case measure => simp [intOf]; omega
          · have he : estep T s d k = edoes s d := by unfold estep; rw [if_neg h4, if_neg hk0, if_neg hw0]
            have q4 : decide (d.who < 0) = false := decide_eq_false (by omega)
            have q5 : decide (d.who ≥ (T : Int)) = false := decide_eq_false (by omega)
            obtain ⟨i, hi⟩ : ∃ i : Nat, d.who = i := ⟨d.who.toNat, by omega⟩
            have hthl := Hi.out.thl
            have hMe := HMd.out
            rw [← hthl] at hMe
            have HD := Lib.hid (edoes_any _ _ _ _ _ _ _ _ s d i _ hMe HO.out (by omega) hi (by omega))
            rw [hthl] at HD
            have hn := Hnext.out
            have hcd := Hcode.out
            rw [he] at hn hcd
            have HN := Lib.hid hn
            have HC := Lib.hid hcd
            clear he hn hcd Hnext Hcode h4 hk0 hw0 hi hthl hMe HMd
            go_wp2_with fail
            refine HD.out.mono ?_
            rintro e w5 ⟨rfl, wv2, hM2⟩
            have HM2 := Lib.hid hM2
            clear hM2 HD d0 d1 d2 z1 c9 z9
            have q9 : w5.cell? ⟨Bw + 1, 0, none⟩ = some cv := by have := HM2.out.cell 4 rfl 0; simpa using this
            have z0 : Bw + 1 < w5.heap.size := (HM2.out.box 4 rfl).2.1
            go_wp2_with (at_builtin; refine Mem.wp_appI elemCodes rfl (.tmp 66) (.tmp 68) rfl HM2.out 5 rfl rfl _ (edoes s d).2 _ _ rfl (by simp) Hcl.out ?_; intro ad n1 cp w6 hn1 hM6 hs6 hk6 ha6; have r1 : w6.frozen? ⟨Bw + 1, 0, none⟩ = false := hM6.free 4 rfl 0; have r2 : w6.cell? ⟨Bw + 1, 0, none⟩ = some cv := (by have := hM6.cell 4 rfl 0; simpa using this))
            go_roundw
            case rel => exact ⟨k + 1, _, _, .slice ad n1 cp, by omega, by go_num, (hM6.setBox 4 rfl 0 (.slice ad n1 cp)).cast (by rw [HN.out, ecodes_succ, HC.out]; rfl)⟩
            case measure => simp [intOf]; omega
    · obtain rfl : k = l.length := by omega
      obtain ⟨s, hs⟩ : ∃ s, est T l l.length = s := ⟨_, rfl⟩
      have hO := eOk_of (T := T) hk hl100 hT4
      rw [hs] at hM hO
      obtain ⟨n, hn⟩ : ∃ n, s.waits.length = n := ⟨_, rfl⟩
      have hwl := hO.waits
      obtain ⟨aw, cw, hv, _⟩ := (hM.isTup 2 rfl encF_len (by omega)).slice
      rw [hn] at hv
      subst hv
      obtain ⟨af, nf, cf, rfl⟩ := own_slice (hM.row 3 rfl)
      obtain ⟨ac, nc, cc, rfl⟩ := own_slice (hM.row 5 rfl)
      have c0 : wr.cell? ⟨Bw, 3, none⟩ = some (.slice af nf cf) := by have := hM.cell 0 rfl 3; simpa using this
      have c1 : wr.cell? ⟨Bw, 2, none⟩ = some (.slice aw n cw) := by have := hM.cell 0 rfl 2; simpa using this
      have f1 : wr.frozen? ⟨Bw + 1, 1, none⟩ = false := hM.free 4 rfl 1
      have f2 : wr.cell? ⟨Bw + 1, 1, none⟩ = some (.slice none 0 0) := by have := hM.cell 4 rfl 1; simpa using this
      have z0 : Bw < wr.heap.size := (hM.box 0 rfl).2.1
      have z1 : Bw + 1 < wr.heap.size := (hM.box 4 rfl).2.1
      have HM1 := Lib.hid (hM.setBox 4 rfl 1 (.slice af nf cf))
      have HS := Lib.hid hs
      have HW := Lib.hid hn
      have Hwl : Hid (n ≤ 100) := Lib.hid (by omega)
      clear hM hO hs hn hwl
      go_wp2
      go_loopw [82] (fun i wr2 => ∃ (k : Nat) (ax : Option Addr) (nx cx : Nat), k ≤ n ∧ i = .int .i64 k ∧ Mem w.heap.size w wr2 (ownS Bw (.slice (some ⟨gt, 0, none⟩) T ct) (.slice aw n cw) (.slice af nf cf) s ++ outL (Bw + 1) w.heap.size (.slice ac nc cc) (.slice af nf cf) (.slice ax nx cx) (ecodes T l l.length) ((s.waits.take k).map (·.1)))) (fun i _ => n - (intOf i).toNat)
      case atStart => exact ⟨0, none, 0, 0, Nat.zero_le _, rfl, HM1.out.cast rfl⟩
      case round =>
        clear HM1 c0 c1 f1 f2 z0 z1
        obtain ⟨k, ax, nx, cx, hk2, rfl, hM⟩ := hrel
        have b0 : wr.cell? ⟨Bw + 1, 0, none⟩ = some (.slice ac nc cc) := by have := hM.cell 4 rfl 0; simpa using this
        have b1 : wr.cell? ⟨Bw + 1, 1, none⟩ = some (.slice af nf cf) := by have := hM.cell 4 rfl 1; simpa using this
        have b2 : wr.cell? ⟨Bw + 1, 2, none⟩ = some (.slice ax nx cx) := by have := hM.cell 4 rfl 2; simpa using this
        have zo : Bw + 1 < wr.heap.size := (hM.box 4 rfl).2.1
        by_cases hlt2 : k < n
        · obtain ⟨x, hx⟩ := get_some s.waits k (by rw [HW.out]; exact hlt2)
          obtain ⟨bl, ol, cl2, hv, _, z1, hc⟩ := (hM.isTup 2 rfl encF_len (by rw [HW.out]; have := Hwl.out; omega)).at (Below.refl _ _) hx
          rw [HW.out] at hv
          cases hv
          have d0 := hc 0 _ rfl
          have d1 := hc 1 _ rfl
          rw [Nat.add_zero] at d0
          have HMx := Lib.hid (hM.alloc_ (.cells #[.int .i64 x.1, .int .i64 x.2] 75))
          have HX := Lib.hid (take_succ_some _ _ _ hx)
          have Hwn : Hid (((s.waits.take k).map (·.1)).length ≤ 1000000) := Lib.hid (by rw [List.length_map, List.length_take, HW.out]; have := Hwl.out; omega)
          have hn100 := Hwl.out
          clear hM hc hx
          go_wp2_with (at_builtin; refine Mem.wp_appI elemInts rfl (.tmp 87) (.tmp 90) rfl HMx.out 6 rfl rfl _ x.1 _ _ rfl (by simp) Hwn.out ?_; intro ad n1 cp w6 hn1 hM6 hs6 hk6 ha6; have r1 : w6.frozen? ⟨Bw + 1, 2, none⟩ = false := hM6.free 4 rfl 2; have r2 : w6.cell? ⟨Bw + 1, 2, none⟩ = some (.slice ax nx cx) := (by have := hM6.cell 4 rfl 2; simpa using this))
          go_roundw
          case rel => exact ⟨k + 1, ad, n1, cp, by omega, by go_num, (hM6.setBox 4 rfl 2 (.slice ad n1 cp)).cast (by rw [HX.out, List.map_append]; rfl)⟩
          case measure => simp [intOf]; omega
        · obtain rfl : k = n := by omega
          have d0 : wr.cell? ⟨w.heap.size, 0, none⟩ = some (.slice none 0 0) := by have := hM.cell 7 rfl 0; simpa using this
          have d1 : wr.cell? ⟨w.heap.size, 1, none⟩ = some (.slice none 0 0) := by have := hM.cell 7 rfl 1; simpa using this
          have d2 : wr.cell? ⟨w.heap.size, 2, none⟩ = some (.slice none 0 0) := by have := hM.cell 7 rfl 2; simpa using this
          have f0 : wr.frozen? ⟨w.heap.size, 0, none⟩ = false := hM.free 7 rfl 0
          have f1 : wr.frozen? ⟨w.heap.size, 1, none⟩ = false := hM.free 7 rfl 1
          have f2 : wr.frozen? ⟨w.heap.size, 2, none⟩ = false := hM.free 7 rfl 2
          have zr : w.heap.size < wr.heap.size := (hM.box 7 rfl).2.1
          have hM2 := hM.setBox 7 rfl 0 (.slice ac nc cc)
          have hM3 := hM2.setBox 7 rfl 1 (.slice af nf cf)
          have hM4 := hM3.setBox 7 rfl 2 (.slice ax nx cx)
          have r0 := hM4.cell 7 rfl 0
          have r1 := hM4.cell 7 rfl 1
          have r2 := hM4.cell 7 rfl 2
          obtain ⟨W9, hW9⟩ : ∃ W9, ((wr.setCell ⟨w.heap.size, 0, none⟩ (.slice ac nc cc)).setCell ⟨w.heap.size, 1, none⟩ (.slice af nf cf)).setCell ⟨w.heap.size, 2, none⟩ (.slice ax nx cx) = W9 := ⟨_, rfl⟩
          have hM5 : Mem w.heap.size w W9 [rowI 28 (.slice ac nc cc) (ecodes T l l.length), rowT 32 2 encF (.slice af nf cf) (est T l l.length).freed, rowI 3 (.slice ax nx cx) ((est T l l.length).waits.map (·.1))] := by
            rw [← hW9, HS.out]
            refine (hM4.pick0 [5, 3, 6] (by decide) ?_)
            have e : s.waits.take k = s.waits := by rw [← HW.out, List.take_length]
            rw [e]; rfl
          rw [hW9] at r0 r1 r2
          have HM5 := Lib.hid hM5
          have HW9 := Lib.hid hW9
          clear hM hM2 hM3 hM4 hM5 hW9
          go_wp2
          rw [HW9.out]
          simp at r0 r1 r2
          refine bodyPost_ret (v := .tuple #[.agg #[.slice ac nc cc, .slice af nf cf, .slice ax nx cx], .int .i64 0]) (by simp [results, Try.results15, go_sem, r0, r1, r2]) rfl ⟨_, _, _, rfl, HM5.out⟩
end Go.Proofs.Ytgmjhoekpbomiaa
