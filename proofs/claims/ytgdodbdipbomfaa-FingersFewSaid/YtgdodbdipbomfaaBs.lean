/- ragpickerref.unpacked, walked. -/
import Derived.Test.YtgdodbdipbomfaaBn
import Derived.Test.YtgdodbdipbomfaaBase3
namespace Go.Proofs.Ytgdodbdipbomfaa
open Go.RowKit Go.Shelf

theorem starts_nodup (os : List Ob) : (starts os).Nodup := (starts_rise os).imp (fun h => by omega)
theorem plc_starts {os : List Ob} {i : Nat} (h : i < os.length) : plc (starts os) (place os i) 0 = i := plc_at (starts_nodup os) (starts_get h)

set_option maxRecDepth 100000 in
set_option maxHeartbeats 2000000 in
theorem unpacked_any (w : World) (v sv : Value) (l : List Int) (os : List Ob) (hl : IsW w v l) (hs : IsInts w sv (starts os)) (hos : os.length ≤ 256) (hlen : l.length ≤ 300) (hok : ∀ x ∈ l, RefOk os x) :
    Calls Try.prog 45 #[v, sv] w fun e w' => ∃ r, e = .returned r ∧ Mem w.heap.size w w' [rowV 96 r (l.map (valG os))] := by
  have Hl := Lib.hid hl
  have Hs := Lib.hid hs
  have Hok := Lib.hid hok
  obtain ⟨a, cap, rfl, hm⟩ := hl.slice
  obtain ⟨n, hn⟩ : ∃ n, l.length = n := ⟨_, rfl⟩
  rw [hn] at hlen hm ⊢
  have Hn := Lib.hid hn
  clear hl hs hok hn
  go_enter Try.func45, Try.ntmps45
  go_wp2
  go_loopw [5, 12] (fun r i wr => ∃ k : Nat, k ≤ n ∧ i = .int .i64 k ∧ Mem w.heap.size w wr [rowV 96 r ((l.take k).map (valG os))]) (fun _ i _ => n - (intOf i).toNat)
  case atStart => exact ⟨0, Nat.zero_le _, rfl, (Mem.start w).nilV _⟩
  case round =>
    obtain ⟨k, hk, rfl, hM⟩ := hrel
    by_cases hlt : k < n
    · obtain ⟨x, hx⟩ := get_some l k (by rw [Hn.out]; exact hlt)
      obtain ⟨b, off, cap2, hv, _, hb1, d1, hx64⟩ := Hl.out.at hM.below hx
      rw [Hn.out] at hv
      cases hv
      have hxo := Hok.out x (List.mem_of_getElem? hx)
      have HX := Lib.hid (show (l.take (k + 1)).map (valG os) = (l.take k).map (valG os) ++ [valG os x] by rw [take_succ_some _ _ _ hx, List.map_append]; rfl)
      have hln : ((l.take k).map (valG os)).length ≤ 1000000 := by rw [List.length_map, List.length_take]; omega
      have HM := Lib.hid hM
      clear hM hx
      by_cases hodd : x % 2 = 1
      · have hU := rUnpack_int x wr hx64 hodd
        have hV : valG os x = ⟨false, wrap64 x / 2⟩ := if_pos hodd
        obtain ⟨y, hy⟩ : ∃ y, wrap64 x / 2 = y := ⟨_, rfl⟩
        rw [hy] at hU hV
        rw [hV] at HX
        have HU := Lib.hid hU
        clear hodd hy hU hV hxo hx64
        go_wp2_with fail
        refine HU.out.mono ?_
        rintro e w7 ⟨rfl, hb7⟩
        have HM7 := Lib.hid ((HM.out.call hb7).alloc_ (.cells #[.bool false, .int .i64 y] 96))
        clear hb7 HU HM
        go_wp2_with (at_builtin; refine Mem.wp_appV elemVals rfl (.tmp 28) (.tmp 30) rfl HM7.out 0 rfl rfl _ ⟨false, y⟩ _ _ rfl (by simp) hln ?_; intro ad n1 cp w6 hn1 hM6 hs6 hk6 ha6)
        go_roundw
        case rel => exact ⟨k + 1, by omega, by go_num, hM6.cast (by rw [HX.out]; rfl)⟩
        case measure => simp [intOf]; omega
      · rcases hxo with h | ⟨heven, hsm, hin⟩
        · exact absurd h hodd
        · obtain ⟨i, hi, hxi⟩ := starts_mem.1 hin
          have hU := rUnpack_ref x wr hx64.1 hsm heven
          have hV : valG os x = ⟨true, (i : Int)⟩ := by unfold valG; rw [if_neg hodd, hxi, idx_place hi]
          have hpl := plc_starts hi
          obtain ⟨y, hy⟩ : ∃ y, place os i = y := ⟨_, rfl⟩
          rw [hy] at hxi hpl
          rw [hxi] at hU
          rw [hV] at HX
          have HU := Lib.hid hU
          have Hpl := Lib.hid hpl
          have hiN : i ≤ 256 := by omega
          have hyN : y ≤ 256 := by omega
          clear hodd hy hU hV hin heven hsm hxi hpl hx64 hi
          go_wp2_with fail
          refine HU.out.mono ?_
          rintro e w7 ⟨rfl, hb7⟩
          have hM7 := (HM.out.call hb7).alloc #[.bool true, .int .i64 y] 96
          obtain ⟨bh, hbh⟩ : ∃ bh, w7.heap.size = bh := ⟨_, rfl⟩
          have hP := place_any sv (starts os) y _ (Hs.out.later hM7.below)
          rw [Hpl.out] at hP
          have HP := Lib.hid hP
          rw [hbh] at hM7
          have HM7 := Lib.hid hM7
          have Hbh := Lib.hid hbh
          clear hb7 HU HM hM7 hbh hP
          go_wp2_with fail
          refine HP.out.mono ?_
          rintro e w8 ⟨rfl, rfl⟩
          rw [Hbh.out]
          have hM8 := HM7.out
          obtain ⟨W8, hW8⟩ : ∃ W8, (w7.alloc (.cells #[.bool true, .int .i64 y] 96)) = W8 := ⟨_, rfl⟩
          rw [hW8] at hM8 ⊢
          have r0 : W8.cell? ⟨bh, 0, none⟩ = some (.bool true) := by have := hM8.cell 0 rfl 0; simpa using this
          have r1 : W8.cell? ⟨bh, 1, none⟩ = some (.int .i64 y) := by have := hM8.cell 0 rfl 1; simpa using this
          have r2 : W8.frozen? ⟨bh, 1, none⟩ = false := hM8.free 0 rfl 1
          have r3 : bh < W8.heap.size := (hM8.box 0 rfl).2.1
          have hM9 := hM8.setBox 0 rfl 1 (.int .i64 i)
          have HM9 := Lib.hid (hM9.drop (List.sublist_cons_self _ _))
          clear hM8 hM9 hW8 HP HM7
          go_wp2_with (at_builtin; refine Mem.wp_appV elemVals rfl (.tmp 28) (.tmp 30) rfl HM9.out 0 rfl rfl _ ⟨true, (i : Int)⟩ _ _ rfl (by simp) hln ?_; intro ad n1 cp w6 hn1 hM6 hs6 hk6 ha6)
          go_roundw
          case rel => exact ⟨k + 1, by omega, by go_num, hM6.cast (by rw [HX.out]; rfl)⟩
          case measure => simp [intOf]; omega
    · obtain rfl : k = n := by omega
      rw [show l.take k = l by rw [← Hn.out, List.take_length]] at hM
      have HM := Lib.hid hM
      clear hM
      go_wp2
      go_ret
      exact ⟨_, rfl, HM.out⟩
end Go.Proofs.Ytgdodbdipbomfaa
