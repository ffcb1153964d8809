/- Hazard: scan, walked. -/
import Derived.Test.YtgmjhoekpbomiaaZb
namespace Go.Proofs.Ytgmjhoekpbomiaa
open Go.RowKit

theorem set_perm {α : Type} (y : α) : ∀ (L : List α) (k : Nat), k < L.length → (L.set k y).Perm (y :: L.eraseIdx k)
  | [], k, h => by simp at h
  | x :: L, 0, _ => List.Perm.refl _
  | x :: L, k + 1, h => ((set_perm y L k (by simpa using h)).cons x).trans (List.Perm.swap y x _)
/-- A thing that is owned takes another one's place. -/
theorem Mem.moveIn {B : Nat} {w0 w : World} {L : List Ent} {y : Ent} (h : Mem B w0 w (y :: L)) (k : Nat) (hk : k < L.length) : Mem B w0 w (L.set k y) :=
  (h.drop ((List.eraseIdx_sublist L k).cons_cons y)).perm (set_perm y L k hk)
theorem hkept_snoc (gs ws : List Int) (x : Int) : hkept gs (ws ++ [x]) = hkept gs ws ++ if decide (x ∈ gs) = true then [x] else [] := by
  unfold hkept; rw [List.filter_append, List.filter_cons, List.filter_nil]
theorem hfreed_snoc (gs ws : List Int) (x b : Int) : hfreed gs (ws ++ [x]) b = hfreed gs ws b ++ if decide (x ∈ gs) = true then [] else [(x, b)] := by
  unfold hfreed
  rw [List.filter_append, List.map_append, List.filter_cons, List.filter_nil]
  congr 1
  cases decide (x ∈ gs) <;> rfl
theorem hkept_le (gs ws : List Int) : (hkept gs ws).length ≤ ws.length := List.length_filter_le _ _
theorem hfreed_le (gs ws : List Int) (b : Int) : (hfreed gs ws b).length ≤ ws.length := by
  unfold hfreed; rw [List.length_map]; exact List.length_filter_le _ _
def ScanSays (B : Nat) (w0 : World) (Bw : Nat) (tv : Value) (gone : List Bool) (fr : List (Int × Int)) (ths : List Th) (i : Nat) (t : Th) (b : Int) (L' : List Ent) (w' : World) (e : Ending) : Prop :=
  ∃ fv' wv', e = .returned (.tuple #[]) ∧ Mem B w0 w' (ownH Bw tv fv' gone (fr ++ hfreed (ths.map (·.g)) t.ws b) (ths.set i { t with wv := wv', ws := hkept (ths.map (·.g)) t.ws }) ++ L')
set_option maxRecDepth 100000 in
set_option maxHeartbeats 1000000 in
theorem scan_any (B : Nat) (w0 w : World) (Bw : Nat) (tv fv : Value) (gone : List Bool) (fr : List (Int × Int)) (ths : List Th) (i : Nat) (t : Th) (b : Int) (L' : List Ent) (hM : Mem B w0 w (ownH Bw tv fv gone fr ths ++ L'))
    (ht : ths[i]? = some t) (hg : gone.length = 100) (hT : ths.length ≤ 100) (hws : t.ws.length ≤ 1000) (hfr : fr.length ≤ 1000) (h64 : ∀ x ∈ t.ws, i64ok x) :
    Calls Try.prog 33 #[.pointer (some ⟨Bw, 0, none⟩), ptr t.b, .int .i64 b] w fun e w' => ScanSays B w0 Bw tv gone fr ths i t b L' w' e := by
  unfold ptr
  have hcb := hM.cell (3 + 2 * i) (own_box ht) 1
  have c1 : w.cell? ⟨t.b, 1, none⟩ = some t.wv := by simpa using hcb
  obtain ⟨a, n, cap, hwv⟩ : ∃ a n cap, t.wv = .slice a n cap := by
    have hr := (hM.row (4 + 2 * i) (own_row ht) : w.ownsRow B 3 1 t.wv t.ws.length _)
    rcases hr.2 with ⟨h1, _⟩ | ⟨g, cap, cur, h1, _⟩
    · exact ⟨_, _, _, h1⟩
    · exact ⟨_, _, _, h1⟩
  have hn : n = t.ws.length := by
    have hr := (hM.row (4 + 2 * i) (own_row ht) : w.ownsRow B 3 1 t.wv t.ws.length _)
    rcases hr.2 with ⟨h1, h2⟩ | ⟨g, cap, cur, h1, _⟩
    · rw [hwv] at h1; cases h1; exact h2.symm
    · rw [hwv] at h1; cases h1; rfl
  rw [hwv] at c1
  have hM1 : Mem B w0 w (rowI 3 (.slice none 0 0) (hkept (ths.map (·.g)) (t.ws.take 0)) :: (ownH Bw tv fv gone (fr ++ hfreed (ths.map (·.g)) (t.ws.take 0) b) ths ++ L')) := by
    have := hM.nilI 3
    simpa [hkept, hfreed] using this
  have hil : i < ths.length := (List.getElem?_eq_some_iff.1 ht).1
  have Ht := Lib.hid ht
  have Hwv := Lib.hid hwv
  have Hn := Lib.hid hn
  have H64 := Lib.hid h64
  have HM1 := Lib.hid hM1
  have Hg := Lib.hid hg
  have zt : t.b < w.heap.size := (hM.box (3 + 2 * i) (own_box ht)).2.1
  clear hcb hM hM1 ht hwv hn h64 hg
  subst_vars
  go_enter Try.func33, Try.ntmps33
  go_wp2
  go_loopw [6, 14] (fun lv kv wr => ∃ (k : Nat) (fv : Value), k ≤ t.ws.length ∧ kv = .int .i64 k ∧ Mem B w0 wr (rowI 3 lv (hkept (ths.map (·.g)) (t.ws.take k)) :: (ownH Bw tv fv gone (fr ++ hfreed (ths.map (·.g)) (t.ws.take k) b) ths ++ L'))) (fun _ kv _ => t.ws.length - (intOf kv).toNat)
  case atStart => exact ⟨0, fv, Nat.zero_le _, rfl, HM1.out⟩
  case round =>
    clear HM1
    obtain ⟨k, fv, hk, rfl, hM⟩ := hrel
    have hk1 := hkept_le (ths.map (·.g)) (t.ws.take k)
    have hk2 := hfreed_le (ths.map (·.g)) (t.ws.take k) b
    have hk3 : (t.ws.take k).length ≤ k := List.length_take_le _ _
    have c2 : wr.cell? ⟨Bw, 0, none⟩ = some tv := by have := hM.cell 1 rfl 0; rw [(worldC_at tv fv Hg.out).1] at this; exact this
    have c3 : wr.cell? ⟨Bw, 101, none⟩ = some fv := by have := hM.cell 1 rfl 101; rw [(worldC_at tv fv Hg.out).2.2] at this; exact this
    have zw : Bw < wr.heap.size := (hM.box 1 rfl).2.1
    obtain ⟨al, nl, cl, hlv⟩ : ∃ al nl cl, u6 = .slice al nl cl := by
      have hr := (hM.row 0 rfl : wr.ownsRow B 3 1 u6 _ _)
      rcases hr.2 with ⟨h1, _⟩ | ⟨g, cap, cur, h1, _⟩
      · exact ⟨_, _, _, h1⟩
      · exact ⟨_, _, _, h1⟩
    subst hlv
    have hrow : (rowI 3 (.slice al nl cl) (hkept (ths.map (·.g)) (t.ws.take k)) :: (ownH Bw tv fv gone (fr ++ hfreed (ths.map (·.g)) (t.ws.take k) b) ths ++ L'))[5 + 2 * i]? = some t.row := by
      rw [show 5 + 2 * i = (4 + 2 * i) + 1 by omega, List.getElem?_cons_succ]; exact own_row Ht.out
    have hbox : (rowI 3 (.slice al nl cl) (hkept (ths.map (·.g)) (t.ws.take k)) :: (ownH Bw tv fv gone (fr ++ hfreed (ths.map (·.g)) (t.ws.take k) b) ths ++ L'))[4 + 2 * i]? = some t.box := by
      rw [show 4 + 2 * i = (3 + 2 * i) + 1 by omega, List.getElem?_cons_succ]; exact own_box Ht.out
    by_cases hlt : k < t.ws.length
    · obtain ⟨x, hx⟩ := get_some _ _ hlt
      obtain ⟨bx, ox, cx, hv, hbx, hnx, c4, hx64⟩ := (isInts_of_own (v := t.wv) (hM.ownI (5 + 2 * i) hrow) (by omega) H64.out).at (Below.refl _ _) hx
      rw [Hwv.out] at hv
      cases hv
      have hIT := isThreads_own (L' := L') (hM.drop (List.sublist_cons_self _ _)) (by omega)
      have HG := guarded_any Bw tv (ths.map (·.g)) x wr hIT c2 zw
      obtain ⟨s, hs⟩ : ∃ s, decide (x ∈ ths.map (·.g)) = s := ⟨_, rfl⟩
      rw [hs] at HG
      have HS := Lib.hid (take_succ_some _ _ _ hx)
      have Hs := Lib.hid hs
      have HG := Lib.hid HG
      have HM := Lib.hid hM
      clear hx hIT hs hM hrow hbox hx64
      go_wp2_with fail
      refine HG.out.mono ?_
      rintro e w2 ⟨rfl, hb2⟩
      have hM2 := HM.out.call hb2
      cases s with
      | true =>
        have HM2 := Lib.hid hM2
        clear hM2 hb2
        go_wp2_with (at_builtin; refine Mem.wp_appI elemInts rfl (.tmp 21) (.tmp 23) rfl HM2.out 0 rfl rfl _ x _ _ rfl (by simp) (by omega) ?_; intro ad n1 cp w3 hn1 hM3 hs1 hk1 ha1)
        go_roundw
        case rel =>
          refine ⟨k + 1, fv, by omega, by go_num, hM3.cast ?_⟩
          rw [HS.out, hkept_snoc, hfreed_snoc, if_pos Hs.out, if_pos Hs.out, List.append_nil]; rfl
        case measure => simp [intOf]; omega
      | false =>
        have c5 : w2.cell? ⟨Bw, 101, none⟩ = some fv := by have := hM2.cell 1 rfl 101; rw [(worldC_at tv fv Hg.out).2.2] at this; exact this
        have zw2 : Bw < w2.heap.size := (hM2.box 1 rfl).2.1
        have HM2 := Lib.hid hM2
        have Hlen : Hid ((fr ++ hfreed (ths.map (·.g)) (t.ws.take k) b).length ≤ 1000000) := Lib.hid (by rw [List.length_append]; omega)
        clear hM2 hb2
        go_wp2_with (at_builtin; refine Mem.wp_appT elemFates rfl (.tmp 29) (.tmp 33) rfl HM2.out 3 rfl rfl _ (x, b) #[.int .i64 x, .int .i64 b] rfl _ _ rfl (by simp) rfl rfl (by decide) Hlen.out ?_; intro ad n1 cp w3 hn1 hM3 hs1 hk1 ha1; have f3 : w3.frozen? ⟨Bw, 101, none⟩ = false := hM3.free 1 rfl 101; have c6 : w3.cell? ⟨Bw, 101, none⟩ = some fv := (by have := hM3.cell 1 rfl 101; rw [(worldC_at tv fv Hg.out).2.2] at this; exact this))
        go_roundw
        case rel =>
          refine ⟨k + 1, .slice ad n1 cp, by omega, by go_num, (hM3.setBox 1 rfl 101 (.slice ad n1 cp)).cast ?_⟩
          rw [worldC_fv _ _ _ Hg.out, HS.out, hkept_snoc, hfreed_snoc, if_neg (by rw [Hs.out]; decide), if_neg (by rw [Hs.out]; decide), List.append_nil, ← List.append_assoc]
          rfl
        case measure => simp [intOf]; omega
    · obtain rfl : k = t.ws.length := by omega
      rw [List.take_length] at hM
      have f1 : wr.frozen? ⟨t.b, 1, none⟩ = false := by
        have := hM.free (4 + 2 * i) (by rw [show 4 + 2 * i = (3 + 2 * i) + 1 by omega, List.getElem?_cons_succ]; exact own_box Ht.out) 1
        exact this
      have c4 : wr.cell? ⟨t.b, 1, none⟩ = some t.wv := by
        have := hM.cell (4 + 2 * i) (by rw [show 4 + 2 * i = (3 + 2 * i) + 1 by omega, List.getElem?_cons_succ]; exact own_box Ht.out) 1
        simpa using this
      have HM := Lib.hid hM
      have zt2 : t.b < wr.heap.size := (hM.box (4 + 2 * i) (by rw [show 4 + 2 * i = (3 + 2 * i) + 1 by omega, List.getElem?_cons_succ]; exact own_box Ht.out)).2.1
      have hlen : (ownH Bw tv fv gone (fr ++ hfreed (ths.map (·.g)) t.ws b) ths ++ L').length > 4 + 2 * i := (List.getElem?_eq_some_iff.1 (own_row (L' := L') Ht.out)).1
      have hM9 := HM.out.moveIn (4 + 2 * i) hlen
      have hM10 := hM9.setBox (3 + 2 * i) (b := t.b) (c := #[.int .i64 t.g, t.wv]) (t := 65) (by rw [List.getElem?_set_ne (by omega)]; exact own_box Ht.out) 1 (.slice al nl cl)
      have hM11 : Mem B w0 (wr.setCell ⟨t.b, 1, none⟩ (.slice al nl cl)) (ownH Bw tv fv gone (fr ++ hfreed (ths.map (·.g)) t.ws b) (ths.set i { t with wv := .slice al nl cl, ws := hkept (ths.map (·.g)) t.ws }) ++ L') := by
        refine hM10.cast ?_
        rw [← own_set_row (L' := L') Ht.out { t with wv := .slice al nl cl, ws := hkept (ths.map (·.g)) t.ws } rfl]
        rfl
      have HM11 := Lib.hid hM11
      clear hM hrow hbox hM9 hM10 hM11
      go_wp2


      exact bodyPost_end (v := .tuple #[]) (by simp [results, Try.results33, go_sem]) rfl ⟨fv, .slice al nl cl, rfl, HM11.out⟩
end Go.Proofs.Ytgmjhoekpbomiaa
