/- arena.Read's closure, walked. -/
import Derived.Test.YtigdpdndnghldaaAn
namespace Go.Proofs.Ytigdpdndnghldaa
open Go.RowKit Go.Shelf

set_option maxRecDepth 100000 in
set_option maxHeartbeats 2000000 in
theorem read1_any (w : World) (v sv : Value) (l : List Int) (b5 : Nat) (os : List Ob) (hl : IsW w v l) (c5 : w.cell? ⟨b5, 0, none⟩ = some sv) (z5 : b5 < w.heap.size) (hs : IsInts w sv (starts os)) (hos : os.length ≤ 256) (hlen : l.length ≤ 300) (hok : ∀ x ∈ l, x % 2 = 1 ∨ x < 512) :
    Calls Try.prog 44 #[v, .pointer (some ⟨b5, 0, none⟩)] w fun e w' => ∃ r, e = .returned r ∧ Mem w.heap.size w w' [rowV 75 r (l.map (valG os))] := by
  have Hl := Lib.hid hl
  have Hs := Lib.hid hs
  have Hok := Lib.hid hok
  obtain ⟨a, cap, rfl, hm⟩ := hl.slice
  obtain ⟨n, hn⟩ : ∃ n, l.length = n := ⟨_, rfl⟩
  have C5 := Lib.hid c5
  have Z5 := Lib.hid z5
  rw [hn] at hlen hm ⊢
  have Hn := Lib.hid hn
  clear hl hs hok hn c5 z5
  go_enter Try.func44, Try.ntmps44
  go_wp2
  go_loopw [4, 13] (fun r i wr => ∃ k : Nat, k ≤ n ∧ i = .int .i64 k ∧ Mem w.heap.size w wr [rowV 75 r ((l.take k).map (valG os))]) (fun _ i _ => n - (intOf i).toNat)
  case atStart => exact ⟨0, Nat.zero_le _, rfl, (Mem.start w).nilV _⟩
  case round =>
    obtain ⟨k, hk, rfl, hM⟩ := hrel
    by_cases hlt : k < n
    · obtain ⟨x, hx⟩ := get_some l k (by rw [Hn.out]; exact hlt)
      obtain ⟨b, off, cap2, hv, _, hb1, d1, hx64⟩ := Hl.out.at hM.below hx
      rw [Hn.out] at hv
      cases hv
      have hxo := Hok.out x (List.mem_of_getElem? hx)
      have HX := Lib.hid (show (l.take (k + 1)).map (valG os) = (l.take k).map (valG os) ++ [valG os x] by rw [take_succ_some _ _ _ hx, List.map_append]; rfl)
      have hln : ((l.take k).map (valG os)).length ≤ 1000000 := by rw [List.length_map, List.length_take]; omega
      have HM := Lib.hid hM
      obtain ⟨h0, h18⟩ := hx64
      clear hM hx
      by_cases hodd : x % 2 = 1
      · have hU := unpack_int x wr h0 h18 hodd
        have hV : valG os x = ⟨false, wrap64 x / 2⟩ := if_pos hodd
        obtain ⟨y, hy⟩ : ∃ y, wrap64 x / 2 = y := ⟨_, rfl⟩
        rw [hy] at hU hV
        rw [hV] at HX
        have HU := Lib.hid hU
        clear hodd hy hU hV hxo
        go_wp2_with fail
        refine HU.out.mono ?_
        rintro e w7 ⟨rfl, hb7⟩
        have HM7 := Lib.hid ((HM.out.call hb7).alloc_ (.cells #[.bool false, .int .i64 y] 75))
        clear hb7 HU HM
        go_wp2_with (at_builtin; refine Mem.wp_appV elemVals rfl (.tmp 33) (.tmp 35) rfl HM7.out 0 rfl rfl _ ⟨false, y⟩ _ _ rfl (by simp) hln ?_; intro ad n1 cp w6 hn1 hM6 hs6 hk6 ha6)
        go_roundw
        case rel => exact ⟨k + 1, by omega, by go_num, hM6.cast (by rw [HX.out]; rfl)⟩
        case measure => simp [intOf]; omega
      · have heven : x % 2 = 0 := by omega
        have hsm : x < 512 := by omega
        have hU := unpack_ref x wr h0 hsm heven
        have hV : valG os x = ⟨true, (idx os (x / 2) : Int)⟩ := if_neg hodd
        obtain ⟨y, hy⟩ : ∃ y, x / 2 = y := ⟨_, rfl⟩
        rw [hy] at hU hV
        rw [hV] at HX
        have HU := Lib.hid hU
        clear hodd hy hU hV hxo heven hsm
        go_wp2_with fail
        refine HU.out.mono ?_
        rintro e w7 ⟨rfl, hb7⟩
        have hM7 := (HM.out.call hb7).alloc #[.bool true, .int .i64 y] 75
        obtain ⟨bh, hbh⟩ : ∃ bh, w7.heap.size = bh := ⟨_, rfl⟩
        have hMc := HM.out.call hb7
        have c5 : w7.cell? ⟨b5, 0, none⟩ = some sv := (hMc.below.cell (p := ⟨_, _, none⟩) Z5.out).trans C5.out
        have z5 : b5 < w7.heap.size := Nat.lt_of_lt_of_le Z5.out hMc.below.size
        have HS := Lib.hid (search_any sv os y _ (Hs.out.later hM7.below) hos)
        rw [hbh] at hM7
        have HM7 := Lib.hid hM7
        have Hbh := Lib.hid hbh
        clear hb7 HU HM hM7 hMc hbh
        go_wp2_with fail
        refine HS.out.mono ?_
        rintro e w8 ⟨⟨bb, rfl⟩, q, rfl⟩
        rw [Hbh.out]
        obtain ⟨ix, hix⟩ : ∃ ix, idx os y = ix := ⟨_, rfl⟩
        rw [hix] at HX ⊢
        have hM8 := HM7.out.drewN q
        obtain ⟨W8, hW8⟩ : ∃ W8, (w7.alloc (.cells #[.bool true, .int .i64 y] 75)).drewN q = W8 := ⟨_, rfl⟩
        rw [hW8] at hM8 ⊢
        have r0 : W8.cell? ⟨bh, 0, none⟩ = some (.bool true) := by have := hM8.cell 0 rfl 0; simpa using this
        have r1 : W8.cell? ⟨bh, 1, none⟩ = some (.int .i64 y) := by have := hM8.cell 0 rfl 1; simpa using this
        have r2 : W8.frozen? ⟨bh, 1, none⟩ = false := hM8.free 0 rfl 1
        have r3 : bh < W8.heap.size := (hM8.box 0 rfl).2.1
        have hM9 := hM8.setBox 0 rfl 1 (.int .i64 ix)
        have HM9 := Lib.hid (hM9.drop (List.sublist_cons_self _ _))
        clear hM8 hM9 hW8 hix HS HM7 c5 z5
        go_wp2_with (at_builtin; refine Mem.wp_appV elemVals rfl (.tmp 33) (.tmp 35) rfl HM9.out 0 rfl rfl _ ⟨true, (ix : Int)⟩ _ _ rfl (by simp) hln ?_; intro ad n1 cp w6 hn1 hM6 hs6 hk6 ha6)
        go_roundw
        case rel => exact ⟨k + 1, by omega, by go_num, hM6.cast (by rw [HX.out]; rfl)⟩
        case measure => simp [intOf]; omega
    · obtain rfl : k = n := by omega
      rw [show l.take k = l by rw [← Hn.out, List.take_length]] at hM
      have HM := Lib.hid hM
      clear hM
      go_wp2
      go_ret
      exact ⟨_, rfl, HM.out⟩
end Go.Proofs.Ytigdpdndnghldaa
