/- arena.Lay's closure: values as words, walked. -/
import Derived.Test.YtigdpdndnghldaaBe
namespace Go.Proofs.Ytigdpdndnghldaa
open Go.RowKit Go.Shelf

def places (objs : List (List V)) : List Int := (List.range objs.length).map fun i => (placeO objs i : Int)
theorem places_get {objs : List (List V)} {i : Nat} (h : i < objs.length) : (places objs)[i]? = some (placeO objs i : Int) := by simp [places, h]
theorem places_len (objs : List (List V)) : (places objs).length = objs.length := by simp [places]
def ownP (b5 : Nat) (atv : Value) (objs : List (List V)) : List Ent := [ebox b5 #[atv] 83, rowI 2 atv (places objs)]
theorem canPack_of {g : G} (h : Good g) {v : V} (hv : v ∈ allV g) : canPack v.ref (if v.ref = true then (placeO g.objs v.n.toNat : Int) else v.n) := by
  obtain ⟨r, n⟩ := v
  cases r with
  | false => have := good_int h hv rfl; simpa [canPack] using this
  | true => have := placeO_le h n.toNat; simp [canPack]; omega
set_option maxRecDepth 100000 in
set_option maxHeartbeats 2000000 in
theorem lay1_any (w0 w : World) (g : G) (hG : Good g) (wsv lv atv : Value) (W0 : List Int) (l : List V) (b5 : Nat) (L' : List Ent)
    (hM : Mem w0.heap.size w0 w (rowW 55 wsv W0 :: (ownP b5 atv g.objs ++ L'))) (hl : IsVals w0 lv l) (hall : ∀ v ∈ l, v ∈ allV g) (hlen : W0.length + l.length ≤ 1000) :
    Calls Try.prog 49 #[wsv, lv, .pointer (some ⟨b5, 0, none⟩)] w fun e w' => ∃ r, e = .returned r ∧ Mem w0.heap.size w0 w' (rowW 55 r (W0 ++ l.map (packV g.objs)) :: (ownP b5 atv g.objs ++ L')) := by
  have Hl := Lib.hid hl
  have Hall := Lib.hid hall
  have HG := Lib.hid hG
  have HM := Lib.hid hM
  obtain ⟨a, cap, rfl, hm⟩ := hl.slice
  obtain ⟨n, hn⟩ : ∃ n, l.length = n := ⟨_, rfl⟩
  rw [hn] at hlen hm ⊢
  have Hn := Lib.hid hn
  have hob := hG.objs
  obtain ⟨N, hN⟩ : ∃ N, g.objs.length = N := ⟨_, rfl⟩
  rw [hN] at hob
  obtain ⟨aa, na, ca, rfl⟩ := own_slice (hM.row 2 rfl)
  have HN := Lib.hid hN
  clear hl hn hall hM hG hN
  go_enter Try.func49, Try.ntmps49
  go_wp2
  go_loopw [0, 12] (fun r i wr => ∃ k : Nat, k ≤ n ∧ i = .int .i64 k ∧ Mem w0.heap.size w0 wr (rowW 55 r (W0 ++ (l.take k).map (packV g.objs)) :: (ownP b5 (.slice aa na ca) g.objs ++ L'))) (fun _ i _ => n - (intOf i).toNat)
  case atStart => exact ⟨0, Nat.zero_le _, rfl, by simpa using HM.out⟩
  case round =>
    clear HM
    obtain ⟨k, hk, rfl, hM⟩ := hrel
    by_cases hlt : k < n
    · obtain ⟨x, hx⟩ := get_some l k (by rw [Hn.out]; exact hlt)
      obtain ⟨b, off, cap2, hv, _, hb1, d0, d1, hx64⟩ := Hl.out.at hM.below hx
      rw [Hn.out] at hv
      cases hv
      have hxa := Hall.out x (List.mem_of_getElem? hx)
      have hX : W0 ++ (l.take (k + 1)).map (packV g.objs) = (W0 ++ (l.take k).map (packV g.objs)) ++ [packV g.objs x] := by rw [take_succ_some _ _ _ hx, List.map_append, List.append_assoc]; rfl
      have Hln : Hid ((W0 ++ (l.take k).map (packV g.objs)).length ≤ 1000000) := Lib.hid (by rw [List.length_append, List.length_map, List.length_take]; omega)
      have hcp := canPack_of HG.out hxa
      obtain ⟨xr, xn⟩ := x
      have hM1 := hM.alloc #[.bool xr, .int .i64 xn] 75
      obtain ⟨W1, hW1⟩ : ∃ W1, wr.alloc (.cells #[.bool xr, .int .i64 xn] 75) = W1 := ⟨_, rfl⟩
      obtain ⟨bv, hbv⟩ : ∃ bv, wr.heap.size = bv := ⟨_, rfl⟩
      cases xr with
      | false =>
        have hX2 : packV g.objs ⟨false, xn⟩ = packW false xn := by simp [packV]
        rw [hX2] at hX
        simp only [Bool.false_eq_true, if_false] at hcp
        obtain ⟨pw, hpw⟩ : ∃ pw, packW false xn = pw := ⟨_, rfl⟩
        have hU := pack_yes xn false (wr.alloc (.cells #[.bool false, .int .i64 xn] 75)) hcp
        rw [hpw] at hX hU
        have HX := Lib.hid hX
        have HU := Lib.hid hU
        have HM := Lib.hid hM1
        clear hM hM1 hx hX hX2 hcp hU hpw hW1 hbv hxa
        go_wp2_with fail
        refine HU.out.mono ?_
        rintro e w7 ⟨rfl, hb7⟩
        have HM7 := Lib.hid ((HM.out.drop (List.sublist_cons_self _ _)).call hb7)
        clear hb7 HU HM
        go_wp2_with (at_builtin; refine Mem.wp_appW elemWords rfl (.tmp 29) (.tmp 31) rfl HM7.out 0 rfl rfl _ pw _ _ rfl (by simp) Hln.out ?_; intro ad n1 cp w6 hn1 hM6 hs6 hk6 ha6)
        go_roundw
        case rel => exact ⟨k + 1, by omega, by go_num, hM6.cast (by rw [HX.out]; rfl)⟩
        case measure => simp [intOf]; omega
      | true =>
        have hr := good_ref HG.out hxa rfl
        simp only at hr
        obtain ⟨i, rfl⟩ : ∃ i : Nat, xn = i := ⟨xn.toNat, by omega⟩
        have hil : i < g.objs.length := by omega
        have hX2 : packV g.objs ⟨true, (i : Int)⟩ = packW true (placeO g.objs i) := by simp [packV]
        rw [hX2] at hX
        simp only [if_true, Int.toNat_natCast] at hcp
        obtain ⟨g5, cap5, hv, _, _, hc5, _⟩ := hM1.intsAt 3 rfl (by intro h; have := congrArg List.length h; rw [places_len] at this; simp at this; rw [this] at hil; simp at hil)
        rw [places_len, HN.out] at hv
        cases hv
        have d5 := hc5 i _ (places_get hil)
        have c5 : wr.cell? ⟨b5, 0, none⟩ = some (.slice (some ⟨g5, 0, none⟩) N ca) := by have := hM.cell 1 rfl 0; simpa using this
        have z5 : b5 < wr.heap.size := (hM.box 1 rfl).2.1
        obtain ⟨q, hq⟩ : ∃ q, placeO g.objs i = q := ⟨_, rfl⟩
        rw [hq] at d5 hX hcp
        rw [hW1] at d5
        obtain ⟨pw, hpw⟩ : ∃ pw, packW true (q : Int) = pw := ⟨_, rfl⟩
        rw [hpw] at hX
        have d6 : wr.cell? ⟨g5, i, none⟩ = some (.int .i64 (q : Int)) := by
          have hh := (hM.intsAt 2 rfl (by intro h; have := congrArg List.length h; rw [places_len] at this; simp at this; rw [this] at hil; simp at hil))
          obtain ⟨g6, cap6, hv6, _, _, hc6, _⟩ := hh
          rw [places_len, HN.out] at hv6
          cases hv6
          have := hc6 i _ (places_get hil)
          rw [hq] at this; exact this
        have z6 : g5 < wr.heap.size := by
          rcases Nat.lt_or_ge g5 wr.heap.size with h | h
          · exact h
          · rw [World.cell?, Array.getElem?_eq_none h] at d6; cases d6
        have hM2 := hM.alloc_ (.cells #[.bool true, .int .i64 (q : Int)] 75)
        have hU := pack_yes q true (wr.alloc (.cells #[.bool true, .int .i64 (q : Int)] 75)) hcp
        rw [hpw] at hU
        have HU := Lib.hid hU
        have hiN : i < N := by rw [← HN.out]; exact hil
        have HX := Lib.hid hX
        have HM2 := Lib.hid hM2
        clear hM hM1 hM2 hx hX hX2 hcp hpw hxa hr hil hc5 d5 hq hW1 hbv hU
        go_wp2_with fail
        refine HU.out.mono ?_
        rintro e w7 ⟨rfl, hb7⟩
        have HM7 := Lib.hid (HM2.out.call hb7)
        clear hb7 HU HM2
        go_wp2_with (at_builtin; refine Mem.wp_appW elemWords rfl (.tmp 29) (.tmp 31) rfl HM7.out 0 rfl rfl _ pw _ _ rfl (by simp) Hln.out ?_; intro ad n1 cp w6 hn1 hM6 hs6 hk6 ha6)
        go_roundw
        case rel => exact ⟨k + 1, by omega, by go_num, hM6.cast (by rw [HX.out]; rfl)⟩
        case measure => simp [intOf]; omega
    · obtain rfl : k = n := by omega
      rw [show l.take k = l by rw [← Hn.out, List.take_length]] at hM
      have HM := Lib.hid hM
      clear hM
      go_wp2
      go_ret
      exact ⟨_, rfl, HM.out⟩
end Go.Proofs.Ytigdpdndnghldaa
