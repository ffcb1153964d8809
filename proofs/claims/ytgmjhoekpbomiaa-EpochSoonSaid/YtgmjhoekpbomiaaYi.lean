/- Epoch: DeleteFunc over what waits, walked. -/
import Derived.Test.YtgmjhoekpbomiaaYh
namespace Go.Proofs.Ytgmjhoekpbomiaa
open Go.RowKit

def keptW (ep : Int) (l : List (Int × Int)) : List (Int × Int) := l.filter fun x => !eold (ep - 1) x
def goneW (ep by_ : Int) (l : List (Int × Int)) : List (Int × Int) := (l.filter (eold (ep - 1))).map fun x => (x.1, by_)
theorem keptW_snoc (ep : Int) (l : List (Int × Int)) (x : Int × Int) : keptW ep (l ++ [x]) = keptW ep l ++ if eold (ep - 1) x = true then [] else [x] := by
  unfold keptW; rw [List.filter_append]
  cases h : eold (ep - 1) x <;> simp [h]
theorem goneW_snoc (ep by_ : Int) (l : List (Int × Int)) (x : Int × Int) : goneW ep by_ (l ++ [x]) = goneW ep by_ l ++ oldF ep by_ x := by
  unfold goneW oldF; rw [List.filter_append, List.map_append]
  cases h : eold (ep - 1) x <;> simp [h]
theorem keptW_none {ep : Int} {l : List (Int × Int)} (h : ∀ y ∈ l, eold (ep - 1) y = false) : keptW ep l = l := by
  unfold keptW; rw [List.filter_eq_self]; intro a ha; simp [h a ha]
theorem goneW_none {ep by_ : Int} {l : List (Int × Int)} (h : ∀ y ∈ l, eold (ep - 1) y = false) : goneW ep by_ l = [] := by
  unfold goneW; rw [List.map_eq_nil_iff, List.filter_eq_nil_iff]; intro a ha; simp [h a ha]
theorem goneW_le (ep by_ : Int) (l : List (Int × Int)) : (goneW ep by_ l).length ≤ l.length := by
  unfold goneW; rw [List.length_map]; exact List.length_filter_le _ _
theorem flat_set0 : ∀ {V : List (Int × Int)} {n : Nat} {z : Int × Int} (_ : V[n]? = some z) (u : Int), (V.flatMap encF).set (n * 2) (.int .i64 u) = (V.set n (u, z.2)).flatMap encF
  | [], n, z, h, u => by simp at h
  | a :: V, 0, z, h, u => by simp at h; subst h; rfl
  | a :: V, n + 1, z, h, u => by
    have := flat_set0 (V := V) (n := n) (z := z) (by simpa using h) u
    rw [List.flatMap_cons, show (n + 1) * 2 = n * 2 + 2 by omega, List.set_cons_succ, List.flatMap_cons, ← this]; rfl
theorem flat_set1 : ∀ {V : List (Int × Int)} {n : Nat} {z : Int × Int} (_ : V[n]? = some z) (u : Int), (V.flatMap encF).set (n * 2 + 1) (.int .i64 u) = (V.set n (z.1, u)).flatMap encF
  | [], n, z, h, u => by simp at h
  | a :: V, 0, z, h, u => by simp at h; subst h; rfl
  | a :: V, n + 1, z, h, u => by
    have := flat_set1 (V := V) (n := n) (z := z) (by simpa using h) u
    rw [List.flatMap_cons, show (n + 1) * 2 + 1 = n * 2 + 1 + 2 by omega, List.set_cons_succ, List.flatMap_cons, ← this]; rfl
def DelSays (B : Nat) (w0 : World) (Bw bP bI : Nat) (ep by_ : Int) (tv wv : Value) (ths : List Int) (W F : List (Int × Int)) (L' : List Ent) (w' : World) (e : Ending) : Prop :=
  ∃ wv' fv', e = .returned wv' ∧ Mem B w0 w' (ebox Bw #[.int .i64 ep, tv, wv, fv'] 71 :: rowI 3 tv ths :: rowT 75 2 encF wv' (keptW ep W) :: rowT 32 2 encF fv' (F ++ goneW ep by_ W) :: ebox bP #[.pointer (some ⟨Bw, 0, none⟩)] 67 :: ebox bI #[.int .i64 by_] 3 :: L')
set_option maxRecDepth 100000 in
set_option maxHeartbeats 1000000 in
theorem del_any (B : Nat) (w0 w : World) (Bw bP bI : Nat) (ep by_ : Int) (tv wv fv : Value) (ths : List Int) (W F : List (Int × Int)) (L' : List Ent) (hM : Mem B w0 w (ownE Bw bP bI ep by_ tv wv fv ths W F ++ L')) (hep : 0 ≤ ep ∧ ep ≤ 1000) (hF : F.length ≤ 300) (hW : W.length ≤ 100) :
    Calls Try.prog 37 #[wv, .func (.func 38) #[] #[.pointer (some ⟨bP, 0, none⟩), .pointer (some ⟨bI, 0, none⟩)]] w fun e w' => DelSays B w0 Bw bP bI ep by_ tv wv ths W F L' w' e := by
  have HI := Lib.hid (oldIx_any B w0 w Bw bP bI ep by_ tv wv fv ths W F L' hM hep (by omega) hW)
  have hrow := (hM.row 2 rfl : w.ownsRow B 75 2 wv _ _)
  obtain ⟨aw, cw, rfl, _⟩ := (hM.isTup 2 rfl encF_len (by omega)).slice
  have Hrow := Lib.hid hrow
  clear hM hrow
  go_enter Try.func37, Try.ntmps37
  go_wp2_with fail
  refine HI.out.mono ?_
  rintro e w1 (⟨rfl, hno, fv1, hM1⟩ | ⟨i, x, hx, hxo, hpre, rfl, fv1, hM1⟩)
  · have HM1 := Lib.hid hM1
    have Hno := Lib.hid hno
    clear hM1 hno HI
    go_wp2
    go_ret
    refine ⟨.slice aw W.length cw, fv1, rfl, HM1.out.cast ?_⟩
    rw [keptW_none Hno.out, goneW_none Hno.out, List.append_nil]; rfl
  · have hil := (List.getElem?_eq_some_iff.1 hx).1
    obtain ⟨g, rfl⟩ : ∃ g, aw = some ⟨g, 0, none⟩ := by
      rcases Hrow.out.2 with ⟨h1, h2⟩ | ⟨g, cap, cur, h1, _⟩
      · omega
      · injection h1 with h2 _ _; exact ⟨g, h2⟩
    have hM2 : Mem B w0 w1 (ownE Bw bP bI ep by_ tv (.slice (some ⟨g, 0, none⟩) W.length cw) fv1 ths W (F ++ goneW ep by_ (W.take (i + 1))) ++ L') := by
      refine hM1.cast ?_
      rw [take_succ_some _ _ _ hx, goneW_snoc, goneW_none hpre, List.nil_append]
      unfold oldF; rw [if_pos hxo]
    have hk2 : keptW ep (W.take (i + 1)) = W.take i := by
      rw [take_succ_some _ _ _ hx, keptW_snoc, if_pos hxo, List.append_nil, keptW_none hpre]
    have HM2 := Lib.hid hM2
    have Hk2 := Lib.hid hk2
    clear hM1 hM2 hx hxo hpre hk2 HI
    have hne : ((i : Int) == -1) = false := by simp
    go_wp2
    clear hne
    go_loopw [5, 6] (fun a b wr => ∃ (n j : Nat) (fv : Value) (V : List (Int × Int)), j ≤ W.length ∧ n < j ∧ a = .int .i64 n ∧ b = .int .i64 j ∧ V.length = W.length ∧ V.take n = keptW ep (W.take j) ∧ V.drop j = W.drop j ∧ Mem B w0 wr (ownE Bw bP bI ep by_ tv (.slice (some ⟨g, 0, none⟩) W.length cw) fv ths V (F ++ goneW ep by_ (W.take j)) ++ L')) (fun _ b _ => W.length - (intOf b).toNat)
    case atStart => exact ⟨i, i + 1, fv1, W, by omega, by omega, rfl, by simp, rfl, by rw [Hk2.out], rfl, HM2.out⟩
    case round =>
      clear HM2 Hk2
      obtain ⟨n, j, fv, V, hj, hn, rfl, rfl, hVl, hVt, hVd, hM⟩ := hrel
      have hgl := goneW_le ep by_ (W.take j)
      have htl : (W.take j).length ≤ W.length := List.length_take_le' _ _
      by_cases hlt : j < W.length
      · obtain ⟨y, hy⟩ := get_some _ _ hlt
        have hyV : V[j]? = some y := by
          have h1 : (V.drop j)[0]? = (W.drop j)[0]? := by rw [hVd]
          rw [List.getElem?_drop, List.getElem?_drop, Nat.add_zero] at h1
          rw [h1]; exact hy
        obtain ⟨b, off, cap2, hv, _, hn1, hcells⟩ := (hM.isTup 2 rfl encF_len (by omega)).at (Below.refl _ _) hyV
        rw [hVl] at hv
        cases hv
        have h1 := hcells 0 _ rfl
        have h2 := hcells 1 _ rfl
        rw [Nat.add_zero, Nat.zero_add] at h1
        rw [Nat.zero_add] at h2
        have hMb := (hM.alloc #[.int .i64 y.1, .int .i64 y.2] 75).perm List.perm_middle
        have hcl := old1_any B w0 _ Bw bP bI ep by_ tv _ fv ths V (F ++ goneW ep by_ (W.take j)) _ y hMb hep (by rw [List.length_append]; omega)
        obtain ⟨t, ht⟩ : ∃ t, eold (ep - 1) y = t := ⟨_, rfl⟩
        rw [ht] at hcl
        have HS := Lib.hid (take_succ_some _ _ _ hy)
        have HY := Lib.hid hy
        have Ht := Lib.hid ht
        have Hcl := Lib.hid hcl
        have HVt := Lib.hid hVt
        have HVd := Lib.hid hVd
        have HVl := Lib.hid hVl
        clear hy hyV hcl ht hM hMb hcells hVt hVd hVl
        obtain ⟨bx, hbx⟩ : ∃ bx, wr.heap.size = bx := ⟨_, rfl⟩
        rw [hbx] at Hcl
        go_wp2_with fail
        clear hbx
        refine Hcl.out.mono ?_
        rintro e w2 ⟨rfl, fv2, hM2⟩
        have x1 : w2.cell? ⟨bx, 0, none⟩ = some (.int .i64 y.1) := by have := hM2.cell 6 rfl 0; simpa using this
        have x2 : w2.cell? ⟨bx, 1, none⟩ = some (.int .i64 y.2) := by have := hM2.cell 6 rfl 1; simpa using this
        have hM3 := hM2.drop (List.Sublist.append_left (List.sublist_cons_self _ L') _)
        have HG := Lib.hid (show goneW ep by_ (W.take (j + 1)) = goneW ep by_ (W.take j) ++ oldF ep by_ y by rw [HS.out, goneW_snoc])
        have HK := Lib.hid (show keptW ep (W.take (j + 1)) = keptW ep (W.take j) ++ if eold (ep - 1) y = true then [] else [y] by rw [HS.out, keptW_snoc])
        have HD : Hid (V.drop (j + 1) = W.drop (j + 1)) := Lib.hid (by rw [← List.drop_drop, ← List.drop_drop, HVd.out])
        have HM3 := Lib.hid hM3
        clear Hcl hM2 hM3 h1 h2
        cases t with
        | true =>
          go_wp2
          go_roundw
          case rel =>
            refine ⟨n, j + 1, fv2, V, by omega, by omega, rfl, by go_num, HVl.out, ?_, HD.out, HM3.out.cast ?_⟩
            · rw [HK.out, if_pos Ht.out, List.append_nil, HVt.out]
            · rw [HG.out, List.append_assoc]
          case measure => simp [intOf]; omega
        | false =>
          obtain ⟨z, hz⟩ : ∃ z, V[n]? = some z := get_some V n (by rw [HVl.out]; omega)
          have hnl : n < W.length := by omega
          have ht2 := HM3.out.tupAt 2 rfl encF_len hz
          have s1 := (ht2 0 _ rfl).1
          have s2 := (ht2 1 _ rfl).1
          have g1 := (ht2 0 _ rfl).2
          have g2 := (ht2 1 _ rfl).2
          rw [Nat.add_zero] at s1 g1
          have zg : g < w2.heap.size := by
            rcases (HM3.out.row 2 rfl : w2.ownsRow B 75 2 _ _ _).2 with ⟨h, _⟩ | ⟨g', cap', cur', h, _, h2, _⟩
            · cases h
            · injection h with h1 _ _; cases h1; exact (Array.getElem?_eq_some_iff.1 h2).1
          have Hz := Lib.hid hz
          clear hz ht2
          go_wp2
          go_roundw
          case rel =>
            have hnV : n < V.length := by rw [HVl.out]; exact hnl
            have hA := HM3.out.setT 2 rfl HVl.out (n * 2) (.int .i64 y.1) (flat_set0 Hz.out y.1) (by simp)
            have hB := hA.setT 2 rfl (by simp [HVl.out]) (n * 2 + 1) (.int .i64 y.2) (flat_set1 (List.getElem?_set_self hnV) y.2) (by simp)
            refine ⟨n + 1, j + 1, fv2, V.set n y, by omega, by omega, by go_num, by go_num, by simp [HVl.out], ?_, ?_, hB.cast ?_⟩
            · rw [HK.out, if_neg (by rw [Ht.out]; decide), take_succ_some _ n y (List.getElem?_set_self hnV), List.take_set_of_le (Nat.le_refl _), HVt.out]
            · rw [List.drop_set_of_lt (by omega), HD.out]
            · simp only [List.set_set]; rw [HG.out, List.append_assoc]; rfl
          case measure => simp [intOf]; omega
      · obtain rfl : j = W.length := by omega
        have hrw : wr.ownsRow B 75 2 (.slice (some ⟨g, 0, none⟩) W.length cw) V.length (V.flatMap encF) := hM.row 2 rfl
        obtain ⟨hcw, hcell, hfr⟩ : W.length ≤ cw ∧ (∀ j, j < (W.length - n) * 2 → (wr.cell? ⟨g, n * 2 + j, none⟩).isSome = true) ∧ (∀ j, j < (W.length - n) * 2 → wr.frozen? ⟨g, n * 2 + j, none⟩ = false) := by
          rcases hrw.2 with ⟨h, _⟩ | ⟨g', cap', cur', h, _, h2, h3, _, h4, _⟩
          · cases h
          · injection h with h5 h6 h7
            cases h5
            subst h7
            rw [hVl] at h3
            refine ⟨h3, fun j hj2 => ?_, fun j hj2 => ?_⟩
            · have : n * 2 + j < cur'.size := by rw [h4]; omega
              simp [World.cell?, h2, this]
            · simp [World.frozen?, h2]
        have hclr := run_clearT (P := Try.prog) wr 69 75 0 (.agg #[.int .i64 0, .int .i64 0]) Try.underlying69 (fun w => by kernel_rfl) g (n * 2) (W.length - n) (cw - n) (by omega) 2 rfl (by intro v hv; simp [Value.cells] at hv; subst hv; rfl) hcell hfr (by decide)
        have hMc := hM.clearCutT 2 rfl hVl encF_len n (by omega) (Builtin.zeroCells (Value.agg #[.int .i64 0, .int .i64 0]).cells (W.length - n)).toList
        obtain ⟨W9, hW9⟩ : ∃ W9, wr.setCells g (n * 2) (Builtin.zeroCells (Value.agg #[.int .i64 0, .int .i64 0]).cells (W.length - n)).toList = W9 := ⟨_, rfl⟩
        rw [hW9] at hclr hMc
        rw [hVt] at hMc
        have HMc := Lib.hid hMc
        have qc : n < cw := by omega
        clear hVt hVd hVl hM hrw hcell hfr hMc hW9
        go_wp2_with fail
        go_ret
        refine ⟨_, fv, rfl, HMc.out.cast ?_⟩
        rw [List.take_length]; rfl
end Go.Proofs.Ytgmjhoekpbomiaa
