/- The mover's all, walked. -/
import Derived.Test.YtigdpdndnghldaaBp
namespace Go.Proofs.Ytigdpdndnghldaa
open Go.RowKit Go.Shelf

/-- What is taken behind some words. -/
def nxts (os : List Ob) (P l : List Int) : List Int := l.foldl (nxt os) P
theorem nxt_prefix (os : List Ob) (P : List Int) (x : Int) : P <+: nxt os P x := by
  unfold nxt; split
  · exact List.prefix_refl _
  · exact tk_prefix _ _
theorem nxts_prefix (os : List Ob) : ∀ (l P : List Int), P <+: nxts os P l
  | [], _ => List.prefix_refl _
  | x :: l, P => (nxt_prefix os P x).trans (nxts_prefix os l _)
theorem nxts_append (os : List Ob) (P l m : List Int) : nxts os P (l ++ m) = nxts os (nxts os P l) m := List.foldl_append
theorem nxts_take (os : List Ob) (P l : List Int) (k : Nat) : nxts os P (l.take k) <+: nxts os P l := by
  conv => rhs; rw [← List.take_append_drop k l, nxts_append]
  exact nxts_prefix os _ _
theorem nxts_succ (os : List Ob) (P : List Int) {l : List Int} {k : Nat} {x : Int} (h : l[k]? = some x) : nxts os P (l.take (k + 1)) = nxt os (nxts os P (l.take k)) x := by
  rw [take_succ_some _ _ _ h, nxts_append]; rfl
theorem nxts_tks (os : List Ob) : ∀ (l P : List Int), nxts os P l = tks P (targets (l.map (valG os)))
  | [], _ => rfl
  | x :: l, P => by
    show nxts os (nxt os P x) l = _
    rw [nxts_tks os l]
    by_cases h : x % 2 = 1
    · rw [show nxt os P x = P from if_pos h, show targets ((x :: l).map (valG os)) = targets (l.map (valG os)) by simp [targets, valG, h]]
    · rw [show nxt os P x = tk P (idx os (x / 2)) from if_neg h, show targets ((x :: l).map (valG os)) = (idx os (x / 2) : Int) :: targets (l.map (valG os)) by simp [targets, valG, h]]
      rfl
/-- What move wants of a word. -/
theorem ref_step {os : List Ob} {F P : List Int} {x : Int} (hr : RefOk os x) (h : nxt os P x <+: F) : x % 2 = 1 ∨ x % 2 = 0 ∧ ∃ i : Nat, i < os.length ∧ x / 2 = place os i ∧ tk P i <+: F := by
  rcases hr with hodd | ⟨heven, _, hin⟩
  · exact .inl hodd
  · obtain ⟨i, hi, e⟩ := starts_mem.1 hin
    refine .inr ⟨heven, i, hi, e, ?_⟩
    unfold nxt at h
    rwa [if_neg (by omega), e, idx_place hi] at h

set_option maxRecDepth 100000 in
set_option maxHeartbeats 2000000 in
theorem mall_any (w0 w : World) (bM bm : Nat) (vw tv u : Value) (ws : List Int) (os : List Ob) (F P l : List Int) (L : List Ent) (hw : IsW w0 vw ws) (hL : Laid ws os) (hsm : ws.length ≤ 256) (hn : F.Nodup) (hrng : ∀ x ∈ F, 0 ≤ x ∧ x < (os.length : Int))
    (hu : IsW w0 u l) (hlen : l.length ≤ 1000) (hrefs : ∀ x ∈ l, RefOk os x) (hF : nxts os P l <+: F) (hM : Mem w0.heap.size w0 w (ownM bM bm vw tv os F P 0 ++ L)) :
    Calls Try.prog 61 #[.pointer (some ⟨bM, 0, none⟩), u] w fun e w' => ∃ r tv', e = .returned r ∧ Mem w0.heap.size w0 w' (ownM bM bm vw tv' os F (nxts os P l) 0 ++ (rowW 55 r (l.map (mvW os F)) :: L)) := by
  obtain ⟨a, c, rfl, _⟩ := hu.slice
  obtain ⟨n, hnn⟩ : ∃ n, l.length = n := ⟨_, rfl⟩
  have Hu := Lib.hid hu
  have Hw := Lib.hid hw
  have HL := Lib.hid hL
  have Hn := Lib.hid hn
  have Hrng := Lib.hid hrng
  have Hrefs := Lib.hid hrefs
  have HF := Lib.hid hF
  have Hnn := Lib.hid hnn
  have HM0 := Lib.hid ((hM.nilW 55).perm (List.perm_middle (l₁ := ownM bM bm vw tv os F P 0) (l₂ := L)))
  rw [hnn] at hlen ⊢
  clear hu hw hL hn hrng hrefs hF hnn hM
  go_enter Try.func61, Try.ntmps61
  go_wp2
  go_loopw [5, 10] (fun r i wr => ∃ (k : Nat) (tv' : Value), k ≤ n ∧ i = .int .i64 k ∧ Mem w0.heap.size w0 wr (ownM bM bm vw tv' os F (nxts os P (l.take k)) 0 ++ (rowW 55 r ((l.take k).map (mvW os F)) :: L))) (fun _ i _ => n - (intOf i).toNat)
  case atStart => exact ⟨0, tv, Nat.zero_le _, rfl, HM0.out⟩
  case round =>
    clear HM0
    obtain ⟨k, tv', hk, rfl, hM⟩ := hrel
    by_cases hlt : k < n
    · obtain ⟨x, hx⟩ := get_some l k (by rw [Hnn.out]; exact hlt)
      obtain ⟨b, off, cap2, hv, _, hb1, d1, hx64⟩ := Hu.out.at hM.below hx
      rw [Hnn.out] at hv
      cases hv
      have hpre := (nxts_take os P l (k + 1)).trans HF.out
      have HS := Lib.hid (nxts_succ os P hx)
      rw [HS.out] at hpre
      have HC := Lib.hid (move_any w0 wr bM bm vw tv' ws os F (nxts os P (l.take k)) 0 _ x Hw.out HL.out hsm Hn.out Hrng.out ((nxts_take os P l k).trans HF.out) (Nat.zero_le _) hx64 (ref_step (Hrefs.out x (List.mem_of_getElem? hx)) hpre) hM)
      have HX := Lib.hid (show (l.take (k + 1)).map (mvW os F) = (l.take k).map (mvW os F) ++ [mvW os F x] by rw [take_succ_some _ _ _ hx, List.map_append]; rfl)
      have hln : ((l.take k).map (mvW os F)).length ≤ 1000000 := by rw [List.length_map, List.length_take]; omega
      obtain ⟨y, hy⟩ : ∃ y, mvW os F x = y := ⟨_, rfl⟩
      rw [hy] at HC HX
      clear hM hx hpre hx64 hy
      go_wp2_with fail
      refine HC.out.mono ?_
      rintro e w5 ⟨rfl, tv2, hM5⟩
      have HM5 := Lib.hid hM5
      clear hM5 HC
      go_wp2_with (at_builtin; refine Mem.wp_appW elemWords rfl (.tmp 14) (.tmp 18) rfl HM5.out 3 rfl rfl _ y _ _ rfl (by simp) hln ?_; intro ad n1 cp w6 hn1 hM6 hs6 hk6 ha6)
      go_roundw
      case rel => exact ⟨k + 1, tv2, by omega, by go_num, hM6.cast (by rw [HX.out, HS.out]; rfl)⟩
      case measure => simp [intOf]; omega
    · obtain rfl : k = n := by omega
      rw [show l.take k = l by rw [← Hnn.out, List.take_length]] at hM
      go_wp2
      go_ret
      exact ⟨_, tv', rfl, hM⟩
end Go.Proofs.Ytigdpdndnghldaa
