/- Hazard: Play, walked. -/
import Derived.Test.YtgmjhoekpbomiaaZj
import Derived.Test.YtgmjhoekpbomiaaZi
namespace Go.Proofs.Ytgmjhoekpbomiaa
open Go.RowKit

theorem does_any (B : Nat) (w0 w : World) (Bw : Nat) (fv : Value) (gone : List Bool) (fr : List (Int × Int)) (ths : List Th) (d : Deed) (b : Int) (L' : List Ent) (gt capt : Nat) (hM : Mem B w0 w (ownH Bw (.slice (some ⟨gt, 0, none⟩) ths.length capt) fv gone fr ths ++ L'))
    (hO : HOk ths gone fr) :
    Calls Try.prog 24 #[.pointer (some ⟨Bw, 0, none⟩), .agg #[.int .i64 d.kind, .int .i64 d.who, .int .i64 d.item], .int .i64 b] w fun e w' => DoesSays B w0 Bw (.slice (some ⟨gt, 0, none⟩) ths.length capt) gone fr ths d b L' w' e := by
  obtain ⟨kind, who, item⟩ := d
  by_cases hk : kind < 1 ∨ 4 < kind
  · exact does_kind B w0 w Bw _ fv gone fr ths kind who item b L' hM hk
  have hkk : kind = 1 ∨ kind = 2 ∨ kind = 3 ∨ kind = 4 := by omega
  by_cases hw : who < 0 ∨ (ths.length : Int) ≤ who
  · exact does_who B w0 w Bw _ fv gone fr ths kind who item b L' hM hkk gt capt rfl hO.goneL hw
  obtain ⟨i, rfl⟩ : ∃ i : Nat, who = (i : Int) := ⟨who.toNat, by omega⟩
  obtain ⟨t, ht⟩ := get_some ths i (by omega)
  by_cases h13 : kind = 1 ∨ kind = 3
  · by_cases hi : item < 0 ∨ 100 ≤ item
    · exact does_item B w0 w Bw _ fv gone fr ths kind i item b L' hM h13 gt capt rfl hO.goneL (by omega) (by omega) hi
    obtain ⟨m, rfl⟩ : ∃ m : Nat, item = (m : Int) := ⟨item.toNat, by omega⟩
    cases hg : gone.getD m false with
    | true => exact does_gone B w0 w Bw _ fv gone fr ths kind i m b L' hM h13 gt capt rfl hO.goneL (by omega) (by omega) (by omega) hg
    | false =>
      rcases h13 with rfl | rfl
      · exact does_guard B w0 w Bw fv gone fr ths i m t b L' gt capt hM hO ht (by omega) hg
      · exact does_retire B w0 w Bw fv gone fr ths i m t b L' gt capt hM hO ht (by omega) hg
  · rcases hkk with rfl | rfl | rfl | rfl
    · omega
    · exact does_clear B w0 w Bw fv gone fr ths i item t b L' gt capt hM hO ht
    · omega
    · exact does_scan B w0 w Bw fv gone fr ths i item t b L' gt capt hM hO ht
theorem worldC_zero (v : Value) (b : Value) (h : b = .bool false) : (v :: (List.replicate 100 b ++ [v])).toArray = worldC v (List.replicate 100 false) v := by
  subst h; unfold worldC; rw [List.map_replicate]
def freshTh (b : Nat) : Th := ⟨b, -1, .slice none 0 0, []⟩
/-- One more thread. -/
theorem own_new {B : Nat} {w0 w : World} {Bw : Nat} {tv fv : Value} {gone : List Bool} {fr : List (Int × Int)} {ths : List Th} {L' : List Ent} {b : Nat}
    (h : Mem B w0 w (ebox b #[.int .i64 (-1), .slice none 0 0] 65 :: ebox Bw (worldC tv gone fv) 62 :: erow 63 1 tv (ths.length + 1) (ths.map (fun t => ptr t.b) ++ [ptr b]) :: rowT 32 2 encF fv fr :: (ths.flatMap thE ++ L'))) :
    Mem B w0 w (ownH Bw tv fv gone fr (ths ++ [freshTh b]) ++ L') := by
  have h2 := h.nilI 3
  refine h2.perm ?_
  have e : ownH Bw tv fv gone fr (ths ++ [freshTh b]) ++ L' = ebox Bw (worldC tv gone fv) 62 :: erow 63 1 tv (ths.length + 1) (ths.map (fun t => ptr t.b) ++ [ptr b]) :: rowT 32 2 encF fv fr :: (ths.flatMap thE ++ ((freshTh b).box :: (freshTh b).row :: L')) := by
    unfold ownH rowPt
    simp [thE, freshTh, List.map_append, Function.comp_def, ptr, Th.box, Th.row]
  rw [e]
  refine List.Perm.symm ?_
  refine (List.Perm.swap _ _ _).trans ?_
  show (ebox b #[.int .i64 (-1), .slice none 0 0] 65 :: (rowI 3 (.slice none 0 0) [] :: (ebox Bw (worldC tv gone fv) 62 :: erow 63 1 tv (ths.length + 1) (ths.map (fun t => ptr t.b) ++ [ptr b]) :: rowT 32 2 encF fv fr :: (ths.flatMap thE ++ L')))).Perm _
  have := (List.perm_append_comm (l₁ := [ebox b #[.int .i64 (-1), .slice none 0 0] 65, rowI 3 (.slice none 0 0) []]) (l₂ := ebox Bw (worldC tv gone fv) 62 :: erow 63 1 tv (ths.length + 1) (ths.map (fun t => ptr t.b) ++ [ptr b]) :: rowT 32 2 encF fv fr :: ths.flatMap thE)).append_right L'
  simpa [freshTh, Th.box, Th.row] using this
theorem zeroWorld (w : World) : (zeroValue 62).run Try.prog w = .ok (.agg (worldC (.slice none 0 0) (List.replicate 100 false) (.slice none 0 0))) w := by kernel_rfl
def PlaySays (T : Nat) (l : List Deed) (w w' : World) (e : Ending) : Prop :=
  ∃ cv fv wv, e = .returned (.tuple #[.agg #[cv, fv, wv], .int .i64 0]) ∧ Mem w.heap.size w w' [rowI 28 cv (hrun T l l.length).2, rowT 32 2 encF fv (hrun T l l.length).1.freed, rowI 3 wv (hrun T l l.length).1.waits.flatten]
def outL (bo Br : Nat) (cv fv wv : Value) (cs ws : List Int) : List Ent := [ebox bo #[cv, fv, wv] 27, rowI 28 cv cs, rowI 3 wv ws, ebox Br #[.slice none 0 0, .slice none 0 0, .slice none 0 0] 27]
theorem own_len {Bw : Nat} {tv fv : Value} {gone : List Bool} {fr : List (Int × Int)} {ths : List Th} : (ownH Bw tv fv gone fr ths).length = 3 + 2 * ths.length := by
  unfold ownH
  have : ∀ ths : List Th, (ths.flatMap thE).length = 2 * ths.length := fun ths => by
    induction ths with
    | nil => rfl
    | cons t ths ih => rw [List.flatMap_cons, List.length_append, ih, List.length_cons]; simp [thE]; omega
  simp only [List.length_cons, this]; omega
theorem own_out {Bw : Nat} {tv fv : Value} {gone : List Bool} {fr : List (Int × Int)} {ths : List Th} {L' : List Ent} (T j : Nat) (hT : ths.length = T) : (ownH Bw tv fv gone fr ths ++ L')[3 + 2 * T + j]? = L'[j]? := by
  rw [List.getElem?_append_right (by rw [own_len]; omega), own_len]; congr 1; omega
theorem own_outset {Bw : Nat} {tv fv : Value} {gone : List Bool} {fr : List (Int × Int)} {ths : List Th} {L' : List Ent} (T j : Nat) (hT : ths.length = T) (x : Ent) : (ownH Bw tv fv gone fr ths ++ L').set (3 + 2 * T + j) x = ownH Bw tv fv gone fr ths ++ L'.set j x := by
  rw [List.set_append_right _ _ (by rw [own_len]; omega), own_len]; congr 2; omega
def wsTo (ths : List Th) (k : Nat) : List Int := ((ths.take k).map (·.ws)).flatten
theorem wsTo_succ {ths : List Th} {k : Nat} {t : Th} (h : ths[k]? = some t) : wsTo ths (k + 1) = wsTo ths k ++ t.ws := by
  unfold wsTo; rw [take_succ_some _ _ _ h, List.map_append, List.flatten_append]; simp
theorem wsTo_le (ths : List Th) (k : Nat) : (wsTo ths k).length ≤ (ths.map (·.ws)).flatten.length := by
  conv => rhs; rw [← List.take_append_drop k ths]
  rw [List.map_append, List.flatten_append, List.length_append]; exact Nat.le_add_right _ _
theorem outL_end {ths : List Th} {B : Nat} {w0 w : World} {Bw Br : Nat} {tv fv cv wv : Value} {gone : List Bool} {fr : List (Int × Int)} {cs ws : List Int} {x : Ent} (h : Mem B w0 w (ownH Bw tv fv gone fr ths ++ [x, rowI 28 cv cs, rowI 3 wv ws, ebox Br #[cv, fv, wv] 27])) :
    Mem B w0 w [rowI 28 cv cs, rowT 32 2 encF fv fr, rowI 3 wv ws] := by
  have h1 : List.Sublist [rowT 32 2 encF fv fr, rowI 28 cv cs, rowI 3 wv ws] (ownH Bw tv fv gone fr ths ++ [x, rowI 28 cv cs, rowI 3 wv ws, ebox Br #[cv, fv, wv] 27]) := by
    unfold ownH
    refine List.Sublist.append (l₁ := [rowT 32 2 encF fv fr]) ?_ ?_
    · exact .cons _ (.cons _ (.cons_cons _ (List.nil_sublist _)))
    · exact .cons _ (.cons_cons _ (.cons_cons _ (List.nil_sublist _)))
  exact (h.drop h1).perm (List.Perm.swap _ _ _)
theorem own_slice {B : Nat} {w : World} {e : TypeId} {sz n : Nat} {v : Value} {xs : List Value} (h : w.ownsRow B e sz v n xs) : ∃ a m c, v = .slice a m c := by
  rcases h.2 with ⟨rfl, _⟩ | ⟨g, cap, cur, rfl, _⟩
  · exact ⟨_, _, _, rfl⟩
  · exact ⟨_, _, _, rfl⟩
theorem hs_start {ths : List Th} {T : Nat} (hT : ths.length = T) (hn : ∀ t ∈ ths, t.g = -1 ∧ t.ws = []) : HSof ths (List.replicate 100 false) [] = hstart T := by
  unfold HSof hstart
  congr 1
  · rw [← hT, List.eq_replicate_iff]; exact ⟨by simp, fun x hx => by obtain ⟨t, ht, rfl⟩ := List.mem_map.1 hx; exact (hn t ht).1⟩
  · rw [← hT, List.eq_replicate_iff]; exact ⟨by simp, fun x hx => by obtain ⟨t, ht, rfl⟩ := List.mem_map.1 hx; exact (hn t ht).2⟩
theorem fr_le {T : Nat} {l : List Deed} {k : Nat} {s : HS} {cs : List Int} (h : HInv T l k s cs) : s.freed.length + s.waits.flatten.length ≤ k := by
  have h1 := h.perm.length_eq
  have h2 := retiredTo_le l cs 3 k
  simp only [List.length_append, List.length_map] at h1
  omega
theorem hOk_of {ths : List Th} {gone : List Bool} {fr : List (Int × Int)} {T : Nat} {l : List Deed} {k : Nat} (hk : k ≤ l.length) (hl : l.length ≤ 100) (hT : ths.length = T) (hT4 : T ≤ 4) (he : HSof ths gone fr = (hrun T l k).1) : HOk ths gone fr := by
  have hi := hrun_inv T l k hk
  have hf := fr_le hi
  rw [← he] at hi hf
  refine ⟨hi.ol, by omega, ?_, fun t ht => ⟨?_, fun x hx => ?_⟩⟩
  · have : (HSof ths gone fr).freed.length = fr.length := rfl
    omega
  · have h1 : t.ws ∈ (HSof ths gone fr).waits := List.mem_map.2 ⟨t, ht, rfl⟩
    have h2 := (List.sublist_flatten_of_mem h1).length_le
    omega
  · have h1 : t.ws ∈ (HSof ths gone fr).waits := List.mem_map.2 ⟨t, ht, rfl⟩
    have h2 : x ∈ (HSof ths gone fr).waits.flatten := List.mem_flatten.2 ⟨_, h1, hx⟩
    have h3 := hi.gone x (hi.perm.mem_iff.1 (List.mem_append.2 (.inr h2)))
    unfold i64ok; omega
set_option maxRecDepth 100000 in
set_option maxHeartbeats 4000000 in
theorem play_yes (T : Nat) (hT1 : 1 ≤ T) (hT4 : T ≤ 4) (v : Value) (l : List Deed) (w : World) (hl : IsTup 3 encD w v l) (hl100 : l.length ≤ 100) :
    Calls Try.prog 12 #[.int .i64 T, v] w fun e w' => PlaySays T l w w' e := by
  have Hl := Lib.hid hl
  obtain ⟨al, cl, rfl, hlm⟩ := hl.slice
  have hM0 := (Mem.start w).alloc #[.slice none 0 0, .slice none 0 0, .slice none 0 0] 27
  have hMs : Mem w.heap.size w ((w.alloc (.cells #[.slice none 0 0, .slice none 0 0, .slice none 0 0] 27)).alloc (.cells (worldC (.slice none 0 0) (List.replicate 100 false) (.slice none 0 0)) 62)) (ownH (w.heap.size + 1) (.slice none 0 0) (.slice none 0 0) (List.replicate 100 false) [] [] ++ [ebox w.heap.size #[.slice none 0 0, .slice none 0 0, .slice none 0 0] 27]) := by
    have h1 := ((hM0.allocAt (w.heap.size + 1) (by simp) (worldC (.slice none 0 0) (List.replicate 100 false) (.slice none 0 0)) 62).nilT 32 2 encF).nil 63 1
    exact h1.perm (List.perm_middle (l₁ := [_, _])).symm
  have qz := zeroWorld (w.alloc (.cells #[.slice none 0 0, .slice none 0 0, .slice none 0 0] 27))
  obtain ⟨g0, hg0⟩ : ∃ g0, List.replicate 100 false = g0 := ⟨_, rfl⟩
  have g0L : g0.length = 100 := by rw [← hg0]; simp
  rw [hg0] at hMs qz
  have HMs := Lib.hid hMs
  have Hg0 := Lib.hid hg0
  clear hl hM0 hMs hg0
  go_enter Try.func12, Try.ntmps12
  have q1 : decide ((T : Int) < 1) = false := decide_eq_false (by omega)
  have q2 : decide ((T : Int) > 4) = false := decide_eq_false (by omega)
  have q3 : decide ((l.length : Int) > 100) = false := decide_eq_false (by omega)
  go_wp2
  clear q1 q2 q3 qz
  go_loopw [26] (fun i wr => ∃ (ths : List Th) (tv : Value), ths.length ≤ T ∧ i = .int .i64 ths.length ∧ (∀ t ∈ ths, t.g = -1 ∧ t.ws = []) ∧ Mem w.heap.size w wr (ownH (w.heap.size + 1) tv (.slice none 0 0) g0 [] ths ++ [ebox w.heap.size #[.slice none 0 0, .slice none 0 0, .slice none 0 0] 27])) (fun i _ => T - (intOf i).toNat)
  case atStart => exact ⟨[], .slice none 0 0, Nat.zero_le _, rfl, by simp, HMs.out⟩
  case round =>
    clear HMs
    obtain ⟨ths, tv, hthT, rfl, hnew, hM⟩ := hrel
    have c0 : wr.cell? ⟨w.heap.size + 1, 0, none⟩ = some tv := by have := hM.cell 0 rfl 0; rw [(worldC_at tv _ g0L).1] at this; exact this
    have z0 : w.heap.size + 1 < wr.heap.size := (hM.box 0 rfl).2.1
    by_cases hlt : ths.length < T
    · have HMb := Lib.hid (hM.alloc #[.int .i64 (-1), .slice none 0 0] 65)
      have Hnew := Lib.hid hnew
      clear hM hnew
      go_wp2_with (at_builtin; refine Mem.wp_app1 elemThreads rfl (.tmp 32) (.tmp 35) rfl HMb.out 2 rfl rfl _ #[ptr wr.heap.size] _ _ rfl (by simp) rfl rfl (by decide) (by simp; omega) ?_; intro ad cp w3 hM3 hs3 hk3 ha3; have c4 : w3.cell? ⟨w.heap.size + 1, 0, none⟩ = some tv := (by have := hM3.cell 1 rfl 0; rw [(worldC_at tv _ g0L).1] at this; exact this); have f3 : w3.frozen? ⟨w.heap.size + 1, 0, none⟩ = false := hM3.free 1 rfl 0)
      go_roundw
      case rel =>
        refine ⟨ths ++ [freshTh wr.heap.size], .slice ad (ths.length + 1) cp, by simp; omega, by simp, ?_, ?_⟩
        · intro t ht
          rcases List.mem_append.1 ht with h | h
          · exact Hnew.out t h
          · simp at h; subst h; exact ⟨rfl, rfl⟩
        · refine own_new ((hM3.setBox 1 rfl 0 (.slice ad (ths.length + 1) cp)).cast ?_)
          rw [worldC_tv]
          simp [ownH, rowPt, Function.comp_def]
      case measure => simp [intOf]; omega
    · obtain rfl : T = ths.length := by omega
      obtain ⟨gt, capt, rfl⟩ : ∃ gt capt, tv = .slice (some ⟨gt, 0, none⟩) ths.length capt := by
        have hr : wr.ownsRow w.heap.size 63 1 tv (ths.map (·.b)).length ((ths.map (·.b)).map ptr) := hM.row 1 rfl
        rcases hr.2 with ⟨_, h0⟩ | ⟨g, cap, cur, rfl, _⟩
        · simp at h0; subst h0; simp at hT1
        · exact ⟨g, cap, by simp⟩
      have hS := hs_start rfl hnew
      rw [Hg0.out] at hS
      have hMa := ((hM.nilI 3).nilI 28).alloc #[.slice none 0 0, .slice none 0 0, .slice none 0 0] 27
      have hMb : Mem w.heap.size w (wr.alloc (.cells #[.slice none 0 0, .slice none 0 0, .slice none 0 0] 27)) (ownH (w.heap.size + 1) (.slice (some ⟨gt, 0, none⟩) ths.length capt) (.slice none 0 0) g0 [] ths ++ outL wr.heap.size w.heap.size (.slice none 0 0) (.slice none 0 0) (.slice none 0 0) [] []) :=
        hMa.perm (List.perm_append_comm_assoc (ownH (w.heap.size + 1) (.slice (some ⟨gt, 0, none⟩) ths.length capt) (.slice none 0 0) g0 [] ths) [ebox wr.heap.size #[.slice none 0 0, .slice none 0 0, .slice none 0 0] 27, rowI 28 (.slice none 0 0) [], rowI 3 (.slice none 0 0) []] [ebox w.heap.size #[.slice none 0 0, .slice none 0 0, .slice none 0 0] 27])
      have HMb := Lib.hid hMb
      have HS := Lib.hid hS
      clear hnew hM hMa hMb hS
      go_wp2
      generalize hbo : wr.heap.size = bo at HMb ⊢
      clear hbo
      go_loopw [42] (fun i wr2 => ∃ (k : Nat) (ths2 : List Th) (gone : List Bool) (fr : List (Int × Int)) (fv cv : Value), k ≤ l.length ∧ i = .int .i64 k ∧ ths2.length = ths.length ∧ HSof ths2 gone fr = (hrun ths.length l k).1 ∧ Mem w.heap.size w wr2 (ownH (w.heap.size + 1) (.slice (some ⟨gt, 0, none⟩) ths.length capt) fv gone fr ths2 ++ outL bo w.heap.size cv (.slice none 0 0) (.slice none 0 0) (hrun ths.length l k).2 [])) (fun i _ => l.length - (intOf i).toNat)
      case atStart => exact ⟨0, ths, g0, [], .slice none 0 0, .slice none 0 0, Nat.zero_le _, rfl, rfl, HS.out, HMb.out⟩
      case round =>
        clear HMb HS c0 z0
        obtain ⟨k, ths2, gone, fr, fv, cv, hk, rfl, hT, hS, hM⟩ := hrel
        by_cases hlt2 : k < l.length
        · obtain ⟨d, hd⟩ := get_some _ _ hlt2
          obtain ⟨bl, ol, cl2, hv, _, z1, hc⟩ := Hl.out.at hM.below hd
          cases hv
          have d0 := hc 0 _ rfl
          have d1 := hc 1 _ rfl
          have d2 := hc 2 _ rfl
          rw [Nat.add_zero] at d0
          have hMd := (hM.alloc #[.int .i64 d.kind, .int .i64 d.who, .int .i64 d.item] 34)
          go_wp2_with fail
          clear z1 hc d0 d1 d2
          obtain ⟨W0, hW0⟩ : ∃ W0, wr.alloc (.cells #[.int .i64 d.kind, .int .i64 d.who, .int .i64 d.item] 34) = W0 := ⟨_, rfl⟩
          obtain ⟨bd, hbd⟩ : ∃ bd, wr.heap.size = bd := ⟨_, rfl⟩
          rw [hbd] at hMd ⊢
          rw [hW0] at hMd ⊢
          have e0 : W0.cell? ⟨bd, 0, none⟩ = some (.int .i64 d.kind) := by have := hMd.cell 0 rfl 0; simpa using this
          have e1 : W0.cell? ⟨bd, 1, none⟩ = some (.int .i64 d.who) := by have := hMd.cell 0 rfl 1; simpa using this
          have e2 : W0.cell? ⟨bd, 2, none⟩ = some (.int .i64 d.item) := by have := hMd.cell 0 rfl 2; simpa using this
          have hMe := hMd.drop (List.sublist_cons_self _ _)
          have e3 : W0.cell? ⟨bo, 0, none⟩ = some cv := by have := hMe.cell (3 + 2 * ths.length + 0) (own_out _ 0 hT) 0; simpa using this
          have zo : bo < W0.heap.size := (hMe.box (3 + 2 * ths.length + 0) (own_out _ 0 hT)).2.1
          have zd : bd < W0.heap.size := (hMd.box 0 rfl).2.1
          have hO := hOk_of hk hl100 hT hT4 hS
          have hMf := hMe.drew
          rw [← hT] at hMf
          have hD := does_any _ _ _ _ _ _ _ _ d k _ gt capt hMf hO
          have HD := Lib.hid hD
          have HT := Lib.hid hT
          have HS := Lib.hid hS
          have Hd := Lib.hid hd
          have HC := Lib.hid (hrun_inv ths.length l k hk).len
          clear hM hMd hMe hMf hD hT hS hd hO hW0 hbd
          go_region_law (first
              | (refine Mem.step_appI' elemCodes rfl (.tmp 48) (.tmp 53) rfl HM2.out (3 + 2 * ths.length + 1) (own_out _ 1 hT3) rfl w2.heap.size 1 (hcode ths2.length gone d) rfl (by simp) (by have := HC.out; omega) ?_
                 intro ad n1 cp w5 hM5 hs5 hk5
                 rw [own_outset _ _ hT3] at hM5
                 have q3 : w5.cell? ⟨bo, 0, none⟩ = some cv := by have := hM5.cell (3 + 2 * ths.length + 0) (own_out _ 0 hT3) 0; simpa using this
                 have q4 : w5.frozen? ⟨bo, 0, none⟩ = false := hM5.free (3 + 2 * ths.length + 0) (own_out _ 0 hT3) 0)
              | (go_simp
                 refine HD.out.mono ?_
                 rintro e w2 ⟨fv2, gone2, fr2, ths3, rfl, hs2, hM2⟩
                 rw [HT.out] at hs2 hM2
                 have hT3 : ths3.length = ths.length := by have h1 := (hrun_inv ths.length l (k + 1) (by omega)).gl; rw [hrun_succ Hd.out] at h1; simp only at h1; rw [← HS.out, ← hs2] at h1; simpa [HSof] using h1
                 have q1 : w2.cell? ⟨bo, 0, none⟩ = some cv := by have := hM2.cell (3 + 2 * ths.length + 0) (own_out _ 0 hT3) 0; simpa using this
                 have zo2 : bo < w2.heap.size := (hM2.box (3 + 2 * ths.length + 0) (own_out _ 0 hT3)).2.1
                 have HM2 := Lib.hid (hM2.alloc_ (.cells #[.int .i64 (hcode ths2.length gone d)] 28))
                 clear hM2))
          all_goals
            go_wp2_with fail
            have hM6 := hM5.setBox (3 + 2 * ths.length + 0) (own_out _ 0 hT3) 0 (.slice ad n1 cp)
            rw [own_outset _ _ hT3] at hM6
            have hgo : gone = (hrun ths.length l k).1.gone := by rw [← HS.out]; rfl
            refine ⟨⟨k + 1, ths3, gone2, fr2, fv2, .slice ad n1 cp, by omega, by simp, hT3, ?_, hM6.cast ?_⟩, by simp [intOf]; omega⟩
            · rw [hrun_succ Hd.out, hs2, HS.out]
            · rw [hrun_succ Hd.out]
              congr 1
              simp only [outL, List.set_cons_succ, List.set_cons_zero, ← hgo, HT.out]
              rfl
        · obtain rfl : k = l.length := by omega
          have hz := hrun_inv ths.length l l.length hk
          have hOk := hOk_of hk hl100 hT hT4 hS
          have hf := fr_le hz
          rw [← hS] at hf
          have hws : (HSof ths2 gone fr).waits.flatten.length ≤ 100 := by omega
          replace hws : (ths2.map (·.ws)).flatten.length ≤ 100 := hws
          have c0 : wr.cell? ⟨w.heap.size + 1, 0, none⟩ = some (.slice (some ⟨gt, 0, none⟩) ths.length capt) := by have := hM.cell 0 rfl 0; rw [(worldC_at _ fv hOk.goneL).1] at this; exact this
          have c1 : wr.cell? ⟨w.heap.size + 1, 101, none⟩ = some fv := by have := hM.cell 0 rfl 101; rw [(worldC_at _ fv hOk.goneL).2.2] at this; exact this
          have c2 : wr.cell? ⟨bo, 1, none⟩ = some (.slice none 0 0) := by have := hM.cell (3 + 2 * ths.length + 0) (own_out _ 0 hT) 1; simpa using this
          have f2 : wr.frozen? ⟨bo, 1, none⟩ = false := hM.free (3 + 2 * ths.length + 0) (own_out _ 0 hT) 1
          obtain ⟨af, nf, cf, rfl⟩ := own_slice (hM.row 2 rfl)
          obtain ⟨ac, nc, cc, rfl⟩ := own_slice (hM.row (3 + 2 * ths.length + 1) (own_out _ 1 hT))
          have hM6 := hM.setBox (3 + 2 * ths.length + 0) (own_out _ 0 hT) 1 (.slice af nf cf)
          rw [own_outset _ _ hT] at hM6
          have HM6 := Lib.hid hM6
          have HT := Lib.hid hT
          have HS := Lib.hid hS
          have HOk := Lib.hid hOk
          have zw : w.heap.size + 1 < wr.heap.size := (hM.box 0 rfl).2.1
          have zo : bo < wr.heap.size := (hM.box (3 + 2 * ths.length + 0) (own_out _ 0 hT)).2.1
          have nbo : bo ≠ w.heap.size + 1 := by
            intro e
            have h1 : List.Pairwise Ent.apart (ownH (w.heap.size + 1) (.slice (some ⟨gt, 0, none⟩) ths.length capt) (.slice af nf cf) gone fr ths2 ++ outL bo w.heap.size (.slice ac nc cc) (.slice none 0 0) (.slice none 0 0) (hrun ths.length l l.length).2 []) := hM.apart
            have h2 := (List.pairwise_append.1 h1).2.2 _ List.mem_cons_self _ List.mem_cons_self
            exact h2 bo (by rw [e]; rfl) rfl
          clear hM hM6 hT hS hOk hz hf
          go_wp2
          go_loopw [67] (fun i wr2 => ∃ (k : Nat) (aw : Option Addr) (nw cw : Nat), k ≤ ths.length ∧ i = .int .i64 k ∧ Mem w.heap.size w wr2 (ownH (w.heap.size + 1) (.slice (some ⟨gt, 0, none⟩) ths.length capt) (.slice af nf cf) gone fr ths2 ++ outL bo w.heap.size (.slice ac nc cc) (.slice af nf cf) (.slice aw nw cw) (hrun ths.length l l.length).2 (wsTo ths2 k))) (fun i _ => ths.length - (intOf i).toNat)
          case atStart => exact ⟨0, none, 0, 0, Nat.zero_le _, rfl, HM6.out.cast rfl⟩
          case round =>
            clear HM6 c0 c1 c2 f2 zw zo
            obtain ⟨k, aw, nw, cw, hk3, rfl, hM⟩ := hrel
            have b0 : wr.cell? ⟨bo, 0, none⟩ = some (.slice ac nc cc) := by have := hM.cell (3 + 2 * ths.length + 0) (own_out _ 0 HT.out) 0; simpa using this
            have b1 : wr.cell? ⟨bo, 1, none⟩ = some (.slice af nf cf) := by have := hM.cell (3 + 2 * ths.length + 0) (own_out _ 0 HT.out) 1; simpa using this
            have b2 : wr.cell? ⟨bo, 2, none⟩ = some (.slice aw nw cw) := by have := hM.cell (3 + 2 * ths.length + 0) (own_out _ 0 HT.out) 2; simpa using this
            have zo : bo < wr.heap.size := (hM.box (3 + 2 * ths.length + 0) (own_out _ 0 HT.out)).2.1
            by_cases hlt3 : k < ths.length
            · obtain ⟨t, ht⟩ := get_some ths2 k (by rw [HT.out]; exact hlt3)
              have hM2 := hM
              rw [← HT.out] at hM2
              have c2 := ptr_cell hM2 ht
              have c3 : wr.cell? ⟨t.b, 1, none⟩ = some t.wv := by have := hM.cell (3 + 2 * k) (own_box ht) 1; simpa using this
              have zt : t.b < wr.heap.size := (hM.box (3 + 2 * k) (own_box ht)).2.1
              have hw := HOk.out.wsL t (List.mem_of_getElem? ht)
              have HIs := Lib.hid (isInts_of_own (v := t.wv) (hM.drew.ownI (4 + 2 * k) (own_row ht)) (by omega) hw.2)
              have hwt := wsTo_le ths2 k
              have HMa := Lib.hid hM.drew
              have HN := Lib.hid (wsTo_succ ht)
              have hw1 := hw.1
              clear hM hM2 ht hw
              go_wp2
              go_region_law (refine Mem.step_appIs elemInts rfl (.tmp 72) (.tmp 76) rfl HMa.out (3 + 2 * ths.length + 2) (own_out _ 2 HT.out) rfl rfl HIs.out (by omega) ?_; intro v6 w6 hM6 hs6 hk6; have f6 : w6.frozen? ⟨bo, 2, none⟩ = false := (by rw [own_outset _ _ HT.out] at hM6; exact hM6.free (3 + 2 * ths.length + 0) (own_out _ 0 HT.out) 2); have g6 : w6.cell? ⟨bo, 2, none⟩ = some (.slice aw nw cw) := (by rw [own_outset _ _ HT.out] at hM6; have := hM6.cell (3 + 2 * ths.length + 0) (own_out _ 0 HT.out) 2; simpa using this); obtain ⟨a6, n6, c6, rfl⟩ := own_slice (hM6.row (3 + 2 * ths.length + 2) (by rw [own_outset _ _ HT.out, own_out _ _ HT.out]; rfl)))
              all_goals
                go_wp2_with fail
                rw [own_outset _ _ HT.out] at hM6
                have hM7 := hM6.setBox (3 + 2 * ths.length + 0) (own_out _ 0 HT.out) 2 (.slice a6 n6 c6)
                rw [own_outset _ _ HT.out] at hM7
                refine ⟨⟨k + 1, a6, n6, c6, by omega, by simp, hM7.cast ?_⟩, by simp [intOf]; omega⟩
                rw [HN.out]; rfl
            · obtain rfl : k = ths.length := by omega
              have d0 : wr.cell? ⟨w.heap.size, 0, none⟩ = some (.slice none 0 0) := by have := hM.cell (3 + 2 * ths.length + 3) (own_out _ 3 HT.out) 0; simpa using this
              have d1 : wr.cell? ⟨w.heap.size, 1, none⟩ = some (.slice none 0 0) := by have := hM.cell (3 + 2 * ths.length + 3) (own_out _ 3 HT.out) 1; simpa using this
              have d2 : wr.cell? ⟨w.heap.size, 2, none⟩ = some (.slice none 0 0) := by have := hM.cell (3 + 2 * ths.length + 3) (own_out _ 3 HT.out) 2; simpa using this
              have f0 : wr.frozen? ⟨w.heap.size, 0, none⟩ = false := hM.free (3 + 2 * ths.length + 3) (own_out _ 3 HT.out) 0
              have f1 : wr.frozen? ⟨w.heap.size, 1, none⟩ = false := hM.free (3 + 2 * ths.length + 3) (own_out _ 3 HT.out) 1
              have f2 : wr.frozen? ⟨w.heap.size, 2, none⟩ = false := hM.free (3 + 2 * ths.length + 3) (own_out _ 3 HT.out) 2
              have zr : w.heap.size < wr.heap.size := (hM.box (3 + 2 * ths.length + 3) (own_out _ 3 HT.out)).2.1
              have HM := Lib.hid hM
              clear hM
              have hM2 := HM.out.setBox (3 + 2 * ths.length + 3) (own_out _ 3 HT.out) 0 (.slice ac nc cc)
              rw [own_outset _ _ HT.out] at hM2
              have hM3 := hM2.setBox (3 + 2 * ths.length + 3) (own_out _ 3 HT.out) 1 (.slice af nf cf)
              rw [own_outset _ _ HT.out] at hM3
              have hM4 := hM3.setBox (3 + 2 * ths.length + 3) (own_out _ 3 HT.out) 2 (.slice aw nw cw)
              rw [own_outset _ _ HT.out] at hM4
              have r0 := hM4.cell (3 + 2 * ths.length + 3) (own_out _ 3 HT.out) 0
              have r1 := hM4.cell (3 + 2 * ths.length + 3) (own_out _ 3 HT.out) 1
              have r2 := hM4.cell (3 + 2 * ths.length + 3) (own_out _ 3 HT.out) 2
              obtain ⟨W9, hW9⟩ : ∃ W9, ((wr.setCell ⟨w.heap.size, 0, none⟩ (.slice ac nc cc)).setCell ⟨w.heap.size, 1, none⟩ (.slice af nf cf)).setCell ⟨w.heap.size, 2, none⟩ (.slice aw nw cw) = W9 := ⟨_, rfl⟩
              have hM5 := outL_end hM4
              rw [hW9] at r0 r1 r2 hM5
              have e1 : fr = (hrun ths.length l l.length).1.freed := by rw [← HS.out]; rfl
              have e2 : wsTo ths2 ths.length = (hrun ths.length l l.length).1.waits.flatten := by rw [← HS.out]; unfold wsTo; rw [← HT.out, List.take_length]; rfl
              rw [e1, e2] at hM5
              have HM5 := Lib.hid hM5
              have HW9 := Lib.hid hW9
              clear hM2 hM3 hM4 hM5 e1 e2 hW9 HM
              go_wp2
              rw [HW9.out]
              simp at r0 r1 r2
              refine bodyPost_ret (v := .tuple #[.agg #[.slice ac nc cc, .slice af nf cf, .slice aw nw cw], .int .i64 0]) (by simp [results, Try.results12, go_sem, r0, r1, r2]) rfl ⟨_, _, _, rfl, HM5.out⟩
end Go.Proofs.Ytgmjhoekpbomiaa
