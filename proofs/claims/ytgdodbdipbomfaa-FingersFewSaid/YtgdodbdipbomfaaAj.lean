/- The reference's Heads, walked. -/
import Derived.Test.YtgdodbdipbomfaaAi
import Derived.Test.YtgdodbdipbomfaaTu
namespace Go.Proofs.Ytgdodbdipbomfaa
open Go.RowKit Go.Shelf

theorem elemHeads : Elem Try.prog 47 50 3 24 (.agg #[.int .i64 0, .bool false, .int .i64 0]) := ⟨by kernel_rfl, info_parts (by kernel_rfl), rfl, by decide⟩
/-- A header as it lies. -/
def encH (n : Int) : List Value := [.int .i64 (n % 256), .bool (n / 256 % 2 == 1), .int .i64 (n / 512 % 8)]
theorem encH_len (n : Int) : (encH n).length = 3 := rfl
def hdrs (os : List Ob) : List Int := os.map (·.1)
set_option maxRecDepth 100000 in
set_option maxHeartbeats 1000000 in
theorem heads_any (vw vr : Value) (ws : List Int) (os : List Ob) (w : World) (hw : IsW w vw ws) (hr : ∃ a n c, vr = .slice a n c) (hL : Laid ws os) (hsm : ws.length ≤ 256) :
    Calls Try.prog 25 #[.agg #[vw, vr]] w fun e w' => ∃ r, e = .returned r ∧ Mem w.heap.size w w' [rowT 50 3 encH r (hdrs os)] := by
  have Hw := Lib.hid hw
  obtain ⟨aw, cw, rfl, hmw⟩ := hw.slice
  obtain ⟨ar, nr, cr, rfl⟩ := hr
  have hM0 := (Mem.start w).alloc #[.slice aw ws.length cw, .slice ar nr cr] 24
  have HM0 := Lib.hid hM0
  have HS := Lib.hid (rStarts_any _ ws _ (hw.later hM0.below) hsm)
  have HL := Lib.hid hL
  clear hw hM0 hL
  go_enter Try.func25, Try.ntmps25
  go_wp2_with fail
  refine HS.out.mono ?_
  rintro e w2 hcase
  rcases hcase with ⟨os2, r, hL2, rfl, hM2⟩ | ⟨hno, _⟩
  · obtain rfl := HL.out.unique hL2
    have hM3 := HM0.out.callMem hM2
    obtain ⟨n, hn⟩ : ∃ n, os.length = n := ⟨_, rfl⟩
    have hcnt := hL2.count
    obtain ⟨ast, cs, hv, _⟩ := (isInts_of_own (hM3.ownI 0 rfl) (by rw [starts_len]; omega) (starts_64 hL2 (by omega))).slice
    rw [starts_len, hn] at hv
    subst hv
    have HM := Lib.hid (hM3.nilT 50 3 encH)
    have Hn := Lib.hid hn
    have hn256 : n ≤ 256 := by omega
    clear hM2 hM3 HM0 HS hn hcnt hL2
    go_wp2
    go_loopw [5, 18] (fun r i wr => ∃ k : Nat, k ≤ n ∧ i = .int .i64 k ∧ Mem w.heap.size w wr [rowT 50 3 encH r (hdrs (os.take k)), rowI 3 (.slice ast n cs) (starts os), ebox w.heap.size #[.slice aw ws.length cw, .slice ar nr cr] 24]) (fun _ i _ => n - (intOf i).toNat)
    case atStart => exact ⟨0, Nat.zero_le _, rfl, HM.out⟩
    case round =>
      clear HM
      obtain ⟨k, hk, rfl, hM⟩ := hrel
      by_cases hlt : k < n
      · have hko : k < os.length := by rw [Hn.out]; exact hlt
        obtain ⟨o, ho⟩ := get_some os k hko
        have h64 := starts_64 HL.out (by omega)
        obtain ⟨b, off, cap', hv, _, hb3, d1, _⟩ := (isInts_of_own (hM.ownI 1 rfl) (by rw [starts_len, Hn.out]; omega) h64).at (Below.refl _ _) (starts_get hko)
        rw [starts_len, Hn.out] at hv
        cases hv
        have hhd := HL.out.head ho
        have hpl : place os k < ws.length := (List.getElem?_eq_some_iff.1 hhd).1
        obtain ⟨b2, off2, cap2, hv, _, hb4, d2, hn64⟩ := Hw.out.at hM.below hhd
        cases hv
        have hg := HL.out.good ho
        have c0 : wr.cell? ⟨w.heap.size, 0, none⟩ = some (.slice (some ⟨b2, off2, none⟩) ws.length cw) := by have := hM.cell 2 rfl 0; simpa using this
        have z0 : w.heap.size < wr.heap.size := (hM.box 2 rfl).2.1
        obtain ⟨hh, hhe⟩ : ∃ hh, o.1 = hh := ⟨_, rfl⟩
        have hU := rUnhead_yes o.1 wr hn64 hg.1
        have HX := Lib.hid (show hdrs (os.take (k + 1)) = hdrs (os.take k) ++ [o.1] by unfold hdrs; rw [take_succ_some _ _ _ ho, List.map_append]; rfl)
        rw [headV, hhe] at hU
        rw [hhe] at HX d2
        have HU := Lib.hid hU
        have HM := Lib.hid hM
        have hln : (hdrs (os.take k)).length ≤ 1000000 := by unfold hdrs; rw [List.length_map, List.length_take]; omega
        obtain ⟨p, hp⟩ : ∃ p, place os k = p := ⟨_, rfl⟩
        rw [hp] at d1 d2 hpl
        clear hM hU hg hhd h64 hhe hp ho
        go_wp2_with fail
        refine HU.out.mono ?_
        rintro e w4 ⟨rfl, hb4⟩
        have HM4 := Lib.hid ((HM.out.call hb4).alloc_ (.cells #[.int .i64 (hh % 256), .bool (hh / 256 % 2 == 1), .int .i64 (hh / 512 % 8)] 50))
        clear hb4 HU HM
        go_wp2_with (at_builtin; refine Mem.wp_appT elemHeads rfl (.tmp 31) (.tmp 33) rfl HM4.out 0 rfl rfl _ hh #[.int .i64 (hh % 256), .bool (hh / 256 % 2 == 1), .int .i64 (hh / 512 % 8)] rfl _ _ rfl (by simp) rfl rfl (by decide) hln ?_; intro ad n1 cp w6 hn1 hM6 hs6 hk6 ha6)
        go_roundw
        case rel => exact ⟨k + 1, by omega, by go_num, hM6.cast (by rw [HX.out]; rfl)⟩
        case measure => simp [intOf]; omega
      · obtain rfl : k = n := by omega
        rw [show os.take k = os by rw [← Hn.out, List.take_length]] at hM
        have HM := Lib.hid (hM.drop (List.Sublist.cons_cons _ (List.nil_sublist _)))
        clear hM
        go_wp2
        go_ret
        exact ⟨_, rfl, HM.out⟩
  · exact absurd HL.out (hno os)
end Go.Proofs.Ytgdodbdipbomfaa
