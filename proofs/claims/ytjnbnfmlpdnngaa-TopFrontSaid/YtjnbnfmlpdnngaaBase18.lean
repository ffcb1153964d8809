/- Texts Rne Rnf Rng Rnh in one. -/
import Derived.Test.YtjnbnfmlpdnngaaBase17
import Derived.Test.YtjnbnfmlpdnngaaQ3
import Derived.Test.YtjnbnfmlpdnngaaOt
import Derived.Test.YtjnbnfmlpdnngaaCti
import Derived.Deep.RegionLaw
import Derived.Test.YtjnbnfmlpdnngaaQ2
import Derived.Test.YtjnbnfmlpdnngaaQ4
/- A memory with so many words: found, walked. -/
namespace Go.Proofs.Ytjnbnfmlpdnngaa
open Go.RowKit Go.Shelf

theorem isVals_mbox {B : Nat} {w0 w : World} {L : List Ent} (h : Mem B w0 w L) (k : Nat) {bx : Nat} {regs : List V} {mv : Value} (hk : L[k]? = some (mbox bx regs mv)) (n : Nat) (hn : regs.length = n) (hl : n ≤ 1000) (hi : ∀ x ∈ regs, i64ok x.n) :
    IsVals w (.slice (some ⟨bx, 0, none⟩) n n) regs := by
  subst hn
  refine ⟨_, regs.length, rfl, by omega, fun j x hx => ?_⟩
  obtain ⟨h1, h2, _, h3⟩ := h.regAt k hk hx
  exact ⟨bx, 0, rfl, h3, by rw [Nat.zero_add]; exact h1, by rw [Nat.zero_add]; exact h2, hi x (List.mem_of_getElem? hx)⟩
section
variable (B : Nat) (w0 : World) (bx : Nat) (regs : List V) (mv : Value) (bm bt nt : Nat) (vo : Value) (cs : List (Option Oc)) (f : Int → Option Value) (col words times : Int) (T : List Ent)
set_option maxRecDepth 100000 in
set_option maxHeartbeats 4000000 in
theorem rfound_any (w : World) (hn : cs.length ≤ 1000) (hF : Fine regs (conts cs)) (hM : Mem B w0 w (rA bx regs mv bm bt nt vo cs f col words times ++ (objsE cs ++ T))) :
    Calls Try.prog 70 #[.pointer (some ⟨bm, 0, none⟩)] w fun e w' => ∃ u, e = .returned u ∧ Mem B w0 w' (rowI 3 u (foundL regs (conts cs)) :: (rA bx regs mv bm bt nt vo cs f col words times ++ (objsE cs ++ T))) := by
  have O := oAt_of (A := rA bx regs mv bm bt nt vo cs f col words times) (R := T) (kp := 2) (vo := vo) (cs := cs) rfl
  obtain ⟨a, cap, rfl⟩ := hM.ptrSlice O
  have hFit := hF.fits (by rw [conts_len]; exact hn)
  have HFit := Lib.hid hFit
  have m0 : w.cell? ⟨bm, 0, none⟩ = some (.slice a cs.length cap) := hM.cell 1 rfl 0
  have m1 : w.cell? ⟨bm, 1, none⟩ = some (.pointer (some ⟨bx, 0, none⟩)) := hM.cell 1 rfl 1
  have mb : bm < w.heap.size := (hM.box 1 rfl).2.1
  have HM := Lib.hid hM
  have HO := Lib.hid O
  have HF := Lib.hid hF
  have hM0 := (Mem.start w).alloc #[.slice none 0 0, .slice (some ⟨bx, 0, none⟩) 8 8] 25
  have hM1 := hM0.nil 61 1
  have HM1 := Lib.hid hM1
  clear hM O hF hM0 hM1 hFit
  go_enter Try.func70, Try.ntmps70
  go_upto_region 3 with (fail)
  go_loopw [5, 20] (fun _ s20 wr => ∃ (k : Nat) (vO : Value), k ≤ cs.length ∧ s20 = .int .i64 k ∧ Mem w.heap.size w wr [erow 61 1 vO k ((cs.take k).map valO), ebox w.heap.size #[vO, .slice (some ⟨bx, 0, none⟩) 8 8] 25]) (fun _ i _ => cs.length - (intOf i).toNat)
  case atStart => exact ⟨0, _, Nat.zero_le _, rfl, HM1.out⟩
  case round =>
    clear HM1
    obtain ⟨k, vO, hk, rfl, hMr⟩ := hrel
    by_cases hlt : k < cs.length
    · obtain ⟨c, hc⟩ := get_some _ _ hlt
      have hMw := HM.out.call hMr.below
      obtain ⟨g, c2, hv, p0, _, pb⟩ := hMw.ptrAt HO.out hc
      cases hv
      have Ht := Lib.hid (take_succ_some _ _ _ hc)
      have hk1000 : k ≤ 1000000 := by omega
      obtain ⟨aO, nO, cO, rfl⟩ := hMr.isSlice 0 rfl
      cases c with
      | none =>
        unfold ptrO at p0
        simp only at p0
        have hMa := hMr.alloc #[.slice none 0 0] 61
        have a0 := hMa.cell 0 rfl 0
        have a1 := (hMa.box 0 rfl).2.1
        have a2 := hMa.cell 2 rfl 0
        have a3 := (hMa.box 2 rfl).2.1
        obtain ⟨W, hW⟩ : ∃ W, wr.alloc (.cells #[.slice none 0 0] 61) = W := ⟨_, rfl⟩
        rw [hW] at hMa a0 a1 a2 a3
        have HW := Lib.hid hW
        have HMa := Lib.hid hMa
        clear hc hMw hMr hMa hW
        go_wp2_with fail
        rw [HW.out]
        go_region_law (first
          | (refine Mem.step_app1 elemObjs rfl (.tmp 29) (.tmp 33) rfl HMa.out.drew 1 rfl rfl 1 #[.slice none 0 0] _ _ rfl (by simp) rfl rfl (by decide) hk1000 ?_
             intro ad cp w6 hM6 hs6 hk6
             have u0 := hM6.cell 2 rfl 0
             have u1 := hM6.free 2 rfl 0))
        all_goals
          have hM8 := hM6.setBox 2 rfl 0 (.slice ad (k + 1) cp)
          have HM8 := Lib.hid (hM8.drop (List.sublist_cons_self _ _))
          clear hM6 hM8 u0 u1
          go_wp2
          go_roundw
          case rel => exact ⟨k + 1, .slice ad (k + 1) cp, by omega, by go_num, HM8.out.cast (by rw [Ht.out, List.map_append]; rfl)⟩
          case measure => simp [intOf]; omega
      | some o =>
        unfold ptrO at p0
        simp only at p0
        obtain ⟨q0, qb, av, cv, hvv⟩ := hMw.objAt HO.out hc
        rw [hvv] at q0
        have hval : valO (some o) = .slice av o.l.length cv := hvv
        have Hval := Lib.hid hval
        have a2 := hMr.cell 1 rfl 0
        have a3 := (hMr.box 1 rfl).2.1
        have HMa := Lib.hid hMr
        clear hc hMw hMr hvv hval
        go_wp2_with fail
        go_region_law (first
          | (refine Mem.step_app1 elemObjs rfl (.tmp 29) (.tmp 33) rfl HMa.out.drew 0 rfl rfl 1 #[.slice av o.l.length cv] _ _ rfl (by simp) rfl rfl (by decide) hk1000 ?_
             intro ad cp w6 hM6 hs6 hk6
             have u0 := hM6.cell 1 rfl 0
             have u1 := hM6.free 1 rfl 0))
        all_goals
          have hM8 := hM6.setBox 1 rfl 0 (.slice ad (k + 1) cp)
          have HM8 := Lib.hid (hM8.drop (List.Sublist.refl _))
          clear hM6 hM8 u0 u1
          go_wp2
          go_roundw
          case rel => exact ⟨k + 1, .slice ad (k + 1) cp, by omega, by go_num, HM8.out.cast (by rw [Ht.out, List.map_append, List.map_cons, List.map_nil, Hval.out]; rfl)⟩
          case measure => simp [intOf]; omega
    · obtain rfl : k = cs.length := by omega
      rw [List.take_length] at hMr
      obtain ⟨aO, nO, cO, rfl⟩ := hMr.isSlice 0 rfl
      have hMw := HM.out.call hMr.below
      have hg : IsGraph wr (.agg #[.slice aO nO cO, .slice (some ⟨bx, 0, none⟩) 8 8]) (gOf regs (conts cs)) := by
        refine ⟨_, _, rfl, ?_, ?_⟩
        · rw [gOf_objs]
          have h1 := isObjs_of_own (rows := cs.map fun c => (valO c, lO c)) ((by have := hMr.row 0 rfl; rw [List.map_map]; exact this) : wr.ownsRow w.heap.size 61 1 (.slice aO nO cO) cs.length ((cs.map fun c => (valO c, lO c)).map (·.1))) (by rw [List.length_map]; omega) ?_
          · rw [List.map_map] at h1; exact h1
          · intro r hr
            obtain ⟨c, hc, rfl⟩ := List.mem_map.1 hr
            obtain ⟨i, hi⟩ := List.getElem?_of_mem hc
            cases c with
            | none => exact ⟨none, 0, rfl, by simp [lO], by simp [lO]⟩
            | some o =>
              refine hMw.isVals _ (HO.out.r i _ hi) ?_ ?_
              · have := HF.out.flen i o.l (conts_at hi)
                show o.l.length ≤ 1000000
                omega
              · intro x hx
                refine HFit.out.vals x (List.mem_append_right _ (List.mem_flatten.2 ⟨o.l, ?_, hx⟩))
                rw [gOf_objs]
                exact List.mem_map.2 ⟨some o, hc, rfl⟩
        · exact isVals_mbox hMw 0 rfl 8 HF.out.regs8 (by omega) (fun x hx => HFit.out.vals x (List.mem_append_left _ hx))
      have a2 := hMr.cell 1 rfl 0
      have a3 := hMr.cell 1 rfl 1
      have ab := (hMr.box 1 rfl).2.1
      have Hg := Lib.hid hg
      have HMr := Lib.hid hMr
      clear hMw hg hMr
      go_wp2_with fail
      refine (found_fits _ HFit.out _ wr Hg.out).mono ?_
      rintro e w2 ⟨vl, vd, l, dist, rfl, hF2, hM2⟩
      have hM3 := HM.out.callMem (HMr.out.callMem hM2)
      have hl := foundL_is hF2
      have hM4 : Mem B w0 w2 (rowI 3 vl (foundL regs (conts cs)) :: (rA bx regs mv bm bt nt (.slice a cs.length cap) cs f col words times ++ (objsE cs ++ T))) := by
        rw [hl]
        exact hM3.drop (.cons_cons _ (.cons _ (.cons _ (List.sublist_cons_self _ _))))
      have HM4 := Lib.hid hM4
      clear hM3 hM4 hF2 hM2 a2 a3
      go_wp2_with fail
      go_ret
      exact ⟨_, rfl, HM4.out⟩
end
end Go.Proofs.Ytjnbnfmlpdnngaa

/- A memory with so many words: clear, walked. -/
namespace Go.Proofs.Ytjnbnfmlpdnngaa
open Go.RowKit Go.Shelf

theorem conts_nil (cs : List (Option Oc)) (i : Nat) : conts (cs.set i none) = (conts cs).set i none := by unfold conts; rw [List.map_set]; rfl
theorem killL_snoc (os : Os) (l : List Int) (x : Int) : killL os (l ++ [x]) = (killL os l).set x.toNat none := by unfold killL; rw [List.foldl_append]; rfl
theorem atF_del {os : Os} {a : List Int} {i : Int} (hi : 0 ≤ i) (hl : i < os.length) : (fun u => if u = i then none else atF os a u) = atF (os.set i.toNat none) a := by
  funext u
  by_cases h : u = i
  · subst h
    rw [if_pos rfl]
    unfold atF
    rw [if_neg]
    rintro ⟨_, h2⟩
    rw [List.getElem?_set_self (by omega)] at h2
    cases h2
  · rw [if_neg h]
    unfold atF
    by_cases hu : 0 ≤ u
    · rw [List.getElem?_set_ne (by omega)]
    · rw [if_neg (fun h => hu h.1), if_neg (fun h => hu h.1)]
/-- Those that are not kept, among those that were looked at. -/
def gones (L l : List Int) : List Int := l.filter fun i => !decide (i ∈ L)
theorem gones_snoc (L l : List Int) (x : Int) : gones L (l ++ [x]) = if x ∈ L then gones L l else gones L l ++ [x] := by
  unfold gones
  rw [List.filter_append]
  by_cases h : x ∈ L
  · rw [if_pos h, List.filter_cons_of_neg (by simpa using h)]; simp
  · rw [if_neg h, List.filter_cons_of_pos (by simpa using h)]; rfl
theorem there_not_earlier {os : Os} {k : Nat} {x : Int} {n : Nat} (h : (thereL os n)[k]? = some x) : x ∉ (thereL os n).take k := by
  intro hx
  obtain ⟨j, hj⟩ := List.getElem?_of_mem hx
  have hjk : j < k := by have := (List.getElem?_eq_some_iff.1 hj).1; rw [List.length_take] at this; omega
  rw [List.getElem?_take_of_lt hjk] at hj
  obtain ⟨h1, h2⟩ := List.getElem?_eq_some_iff.1 h
  obtain ⟨h3, h4⟩ := List.getElem?_eq_some_iff.1 hj
  have := List.pairwise_iff_getElem.1 (thereL_rising os n) j k h3 h1 hjk
  omega
/-- A machine with such a memory. -/
def RM (B : Nat) (w0 : World) (bx : Nat) (regs : List V) (mv : Value) (bm : Nat) (col words : Int) (os : Os) (x : Rx) (T : List Ent) (w : World) : Prop :=
  ∃ vo cs bt nt, conts cs = os ∧ ((nt : Nat) : Int) ≤ 900 * x.times + (os.length : Int) ∧ Mem B w0 w (rA bx regs mv bm bt nt vo cs (atF os x.at_) col words x.times ++ (objsE cs ++ T))
section
variable (B : Nat) (w0 : World) (bx : Nat) (regs : List V) (mv : Value) (bm : Nat) (col words : Int)
set_option maxRecDepth 100000 in
set_option maxHeartbeats 8000000 in
theorem rclear_any (T : List Ent) (w : World) (os : Os) (x : Rx) (hI : InvX words ⟨regs, os, x⟩) (ht : x.times < 100) (hC : RM B w0 bx regs mv bm col words os x T w) :
    Calls Try.prog 50 #[.pointer (some ⟨bm, 0, none⟩)] w fun e w' => e = .returned (.tuple #[]) ∧ RM B w0 bx regs mv bm col words (clearS col ⟨regs, os, x⟩).os (clearS col ⟨regs, os, x⟩).x T w' := by
  obtain ⟨vo, cs, bt, nt, rfl, hnt, hM⟩ := hC
  have hlen : cs.length ≤ 900 := by have := hI.len; rwa [conts_len] at this
  rw [conts_len] at hnt
  have htm := hI.tm
  have m5 : w.cell? ⟨bm, 5, none⟩ = some (.int .i64 x.times) := hM.cell 1 rfl 5
  have f5 : w.frozen? ⟨bm, 5, none⟩ = false := hM.free 1 rfl 5
  have mb : bm < w.heap.size := (hM.box 1 rfl).2.1
  have hM1 : Mem B w0 (w.setCell ⟨bm, 5, none⟩ (.int .i64 (x.times + 1))) (rA bx regs mv bm bt nt vo cs (atF (conts cs) x.at_) col words (x.times + 1) ++ (objsE cs ++ T)) := hM.setBox 1 rfl 5 (.int .i64 (x.times + 1))
  obtain ⟨W, hW⟩ : ∃ W, w.setCell ⟨bm, 5, none⟩ (.int .i64 (x.times + 1)) = W := ⟨_, rfl⟩
  rw [hW] at hM1
  have hfo := rfound_any B w0 bx regs mv bm bt nt vo cs (atF (conts cs) x.at_) col words (x.times + 1) T W (by omega) hI.fine hM1
  have hLl : (foundL regs (conts cs)).length ≤ cs.length := by
    obtain ⟨dist, _, h⟩ := foundL_far hI.fine (by rw [conts_len]; omega)
    have := h.inv.length_le
    rwa [gOf_len, conts_len] at this
  have hLm : ∀ y ∈ foundL regs (conts cs), Lives (conts cs) y := fun y hy => hI.led y ((hI.leads y).1 hy)
  have hwr : IntKind.i64.wrap (x.times + 1) = x.times + 1 := IntWalk.i64_in _ (by have : x.times ≤ 100 := htm.2; have : 0 ≤ x.times := htm.1; omega)
  have hpl := hI.pl
  have hpk := hI.pl.kill (foundL regs (conts cs))
  have hcs : clearS col ⟨regs, conts cs, x⟩ = ⟨regs, killed (conts cs) (foundL regs (conts cs)), ⟨if col = 2 then downF (killed (conts cs) (foundL regs (conts cs))) (foundL regs (conts cs)) 0 x.at_ else if col = 3 then downF (killed (conts cs) (foundL regs (conts cs))) (rowL (killed (conts cs) (foundL regs (conts cs))) x.at_) 0 x.at_ else x.at_, x.times + 1⟩⟩ := rfl
  obtain ⟨S, hS⟩ : ∃ S, clearS col ⟨regs, conts cs, x⟩ = S := ⟨_, rfl⟩
  rw [hS] at hcs ⊢
  obtain ⟨L, hL⟩ : ∃ L, foundL regs (conts cs) = L := ⟨_, rfl⟩
  rw [hL] at hcs hfo hLl hLm hpk
  have HS := Lib.hid hcs
  have Hfo := Lib.hid hfo
  have HLm := Lib.hid hLm
  have HW := Lib.hid hW
  have Hnt := Lib.hid hnt
  have Hpk := Lib.hid hpk
  have HF := Lib.hid hI.fine
  have Hat := Lib.hid hpl.len
  clear hcs hfo hLm hW hM hM1 hnt hI hpl hpk hS hL
  go_enter Try.func50, Try.ntmps50
  go_upto_region 1 with (fail)
  rw [HW.out]
  go_wp2_with fail
  refine Hfo.out.mono ?_
  rintro e w1 ⟨vl, rfl, hM1⟩
  obtain ⟨aL, cL, rfl⟩ := hM1.intsSlice 0 rfl
  have m0 : w1.cell? ⟨bm, 0, none⟩ = some vo := hM1.cell 2 rfl 0
  have mb1 : bm < w1.heap.size := (hM1.box 2 rfl).2.1
  have hM1' : Mem B w0 w1 (([rowI 3 (.slice aL L.length cL) L] ++ rA bx regs mv bm bt nt vo cs (atF (conts cs) x.at_) col words (x.times + 1)) ++ (objsE cs ++ T)) := hM1
  have hth := othere_any B w0 w1 _ 3 5 vo cs hM1' (oAt_of (A := [rowI 3 (.slice aL L.length cL) L] ++ rA bx regs mv bm bt nt vo cs (atF (conts cs) x.at_) col words (x.times + 1)) rfl) (by omega)
  have hmem : ∀ y ∈ thereL (conts cs) cs.length, Lives (conts cs) y ∧ y < (cs.length : Int) := fun y hy => by
    obtain ⟨h1, h2⟩ := (mem_thereL (by rw [conts_len]; exact Nat.le_refl _)).1 hy
    exact ⟨h1, h2⟩
  have hnot : ∀ k y, (thereL (conts cs) cs.length)[k]? = some y → y ∉ (thereL (conts cs) cs.length).take k := fun k y h => there_not_earlier h
  have hTn := thereL_len (conts cs) cs.length
  have hki : killed (conts cs) L = killL (conts cs) (gones L (thereL (conts cs) cs.length)) := by unfold killed gones; rw [conts_len]
  obtain ⟨TL, hTL⟩ : ∃ TL, thereL (conts cs) cs.length = TL := ⟨_, rfl⟩
  rw [hTL] at hth hmem hnot hTn hki
  obtain ⟨aO, capO, rfl⟩ := hM1'.ptrSlice (oAt_of (A := [rowI 3 (.slice aL L.length cL) L] ++ rA bx regs mv bm bt nt vo cs (atF (conts cs) x.at_) col words (x.times + 1)) (kp := 3) (vo := vo) rfl)
  have Hth := Lib.hid hth
  have Hmem := Lib.hid hmem
  have Hnot := Lib.hid hnot
  have Hki := Lib.hid hki
  have HM1 := Lib.hid hM1
  obtain ⟨nL, hnL⟩ : ∃ nL, L.length = nL := ⟨_, rfl⟩
  rw [hnL] at HM1 hLl ⊢
  have HnL := Lib.hid hnL
  clear hM1 hM1' hth hmem hnot hki hTL hnL Hfo HW m5 f5 mb
  go_wp2_with fail
  refine Hth.out.mono ?_
  rintro e w2 ⟨vt, rfl, hMt⟩
  obtain ⟨aT, cT, rfl⟩ := hMt.intsSlice 0 rfl
  have hM2 := HM1.out.callMem hMt
  have HM2 := Lib.hid hM2
  obtain ⟨nT, hnT⟩ : ∃ nT, TL.length = nT := ⟨_, rfl⟩
  rw [hnT] at HM2 hTn ⊢
  have HnT := Lib.hid hnT
  clear hM2 hMt hnT m0 mb1 Hth HM1
  go_upto_region 3 with (fail)
  obtain ⟨n, hn⟩ : ∃ n, cs.length = n := ⟨_, rfl⟩
  rw [hn] at HM2 hlen hTn hLl
  have Hn := Lib.hid hn
  clear hn
  go_loopw [4, 20] (fun _ s20 wq => ∃ (k : Nat) (cq : List (Option Oc)), k ≤ nT ∧ s20 = .int .i64 (k : Int) ∧ conts cq = killL (conts cs) (gones L (TL.take k)) ∧
    Mem B w0 wq (rowI 3 (.slice aT nT cT) TL :: rowI 3 (.slice aL nL cL) L :: (rA bx regs mv bm bt nt (.slice aO n capO) cq (atF (conts cq) x.at_) col words (x.times + 1) ++ (objsE cq ++ T)))) (fun _ i _ => nT - (intOf i).toNat)
  case atStart => exact ⟨0, cs, Nat.zero_le _, rfl, rfl, HM2.out⟩
  case round =>
    clear HM2
    obtain ⟨k, cq, hk, rfl, hcq, hM⟩ := hrel
    have hql : cq.length = n := by have := congrArg List.length hcq; rw [conts_len, kill_len, conts_len] at this; rw [this]; exact Hn.out
    have Hql := Lib.hid hql
    by_cases hlt : k < nT
    · have e1 : (k : Int) < (nT : Int) := by omega
      obtain ⟨y, hy⟩ := get_some TL k (by rw [HnT.out]; exact hlt)
      obtain ⟨hly, hy1⟩ := Hmem.out y (List.mem_of_getElem? hy)
      have hny := Hnot.out k y hy
      obtain ⟨i, rfl⟩ : ∃ i : Nat, y = (i : Int) := ⟨y.toNat, by have := hly.1; omega⟩
      obtain ⟨gT, capT, hvT, _, bT, cT2, _⟩ := hM.intsAt 0 rfl (by rintro rfl; simp at hy)
      have d0 := cT2 k _ hy
      have haT : aT = some ⟨gT, 0, none⟩ := by cases hvT; rfl
      subst haT
      have htk := take_succ_some _ _ _ hy
      have hLI : IsInts wr (.slice aL nL cL) L := isInts_of_own (hM.row 1 rfl) (by rw [HnL.out]; omega) (fun z hz => by
        have h1 := HLm.out z hz
        have h2 := h1.lt
        rw [conts_len, Hn.out] at h2
        have h3 := h1.1
        exact ⟨by omega, by omega⟩)
      have hct := containsI_any (.slice aL nL cL) L (i : Int) wr hLI
      have hnx := gones_snoc L (TL.take k) (i : Int)
      rw [← htk] at hnx
      by_cases hiL : (i : Int) ∈ L
      · rw [decide_eq_true hiL] at hct
        rw [if_pos hiL] at hnx
        have Hct := Lib.hid hct
        have Hnx := Lib.hid hnx
        have HMr := Lib.hid hM
        have Hcq := Lib.hid hcq
        clear hct hnx hM hcq hql hLI htk hy hny hvT cT2 hly hy1
        go_wp2_with fail
        refine Hct.out.mono ?_
        rintro e w5 ⟨rfl, rfl⟩
        go_wp2_with fail
        go_roundw
        case rel => exact ⟨k + 1, cq, by omega, by go_num, by rw [Hnx.out]; exact Hcq.out, HMr.out⟩
        case measure => simp [intOf]; omega
      · rw [decide_eq_false hiL] at hct
        rw [if_neg hiL] at hnx
        obtain ⟨F, hF⟩ : ∃ F, gones L (TL.take k) = F := ⟨_, rfl⟩
        rw [hF] at hcq hnx
        have hiF : (i : Int) ∉ F := by rw [← hF]; exact fun h => hny (List.mem_filter.1 h).1
        have hF0 : ∀ q ∈ F, 0 ≤ q := by
          intro q hq
          rw [← hF] at hq
          exact (Hmem.out q (List.mem_of_mem_take (List.mem_filter.1 hq).1)).1.1
        have hob := hly.obj
        rw [Int.toNat_natCast] at hob
        have hoq : (conts cq)[i]? = some (some (objAt (conts cs) (i : Int))) := by
          rw [hcq, kill_get _ _ hF0, if_neg (fun h => hiF h.1)]; exact hob
        obtain ⟨o, ho, _⟩ := conts_get hoq
        have O := oAt_of (A := rowI 3 (.slice (some ⟨gT, 0, none⟩) nT cT) TL :: rowI 3 (.slice aL nL cL) L :: rA bx regs mv bm bt nt (.slice aO n capO) cq (atF (conts cq) x.at_) col words (x.times + 1)) (kp := 4) (vo := .slice aO n capO) (cs := cq) (R := T) rfl
        obtain ⟨g, cap2, hvo, q0, q1, q2⟩ := hM.ptrAt O ho
        injection hvo with h1 h2 h3
        subst h1 h3
        unfold ptrO at q0
        simp only at q0
        have m0 : wr.cell? ⟨bm, 0, none⟩ = some (.slice (some ⟨g, 0, none⟩) n capO) := hM.cell 3 rfl 0
        have mb : bm < wr.heap.size := (hM.box 3 rfl).2.1
        have e3 : (i : Int) < (n : Int) := by have := (List.getElem?_eq_some_iff.1 ho).1; omega
        rw [← hql] at hM
        have hM1 := hM.setRow (n := cq.length) 4 rfl i (.pointer none)
        obtain ⟨W1, hW1⟩ : ∃ W1, wr.setCell ⟨g, i, none⟩ (.pointer none) = W1 := ⟨_, rfl⟩
        rw [hW1] at hM1
        have m2 : W1.cell? ⟨bm, 2, none⟩ = some (.map (some bt)) := hM1.cell 3 rfl 2
        have mb2 : bm < W1.heap.size := (hM1.box 3 rfl).2.1
        have hM3 := objs_take (A := [rowI 3 (.slice (some ⟨gT, 0, none⟩) nT cT) TL, rowI 3 (.slice aL nL cL) L, mbox bx regs mv, boxR bm bx bt (.slice (some ⟨g, 0, none⟩) cq.length capO) col words (x.times + 1), erow 123 1 (.slice (some ⟨g, 0, none⟩) cq.length capO) cq.length ((cq.map ptrO).set i (.pointer none)), gmap mapII bt nt (atF (conts cq) x.at_)]) ho (hM1.cast rfl)
        have e4 : erow 123 1 (.slice (some ⟨g, 0, none⟩) cq.length capO) cq.length ((cq.map ptrO).set i (.pointer none)) = rowP (.slice (some ⟨g, 0, none⟩) cq.length capO) (cq.set i none) := by
          unfold rowP; rw [List.length_set, List.map_set]; rfl
        rw [e4, hql] at hM3
        have hcq2 : conts (cq.set i none) = killL (conts cs) (F ++ [(i : Int)]) := by rw [conts_nil, hcq, killL_snoc, Int.toNat_natCast]
        have hdel := atF_del (os := conts cq) (a := x.at_) (i := (i : Int)) (by omega) (by rw [conts_len, hql]; exact e3)
        rw [Int.toNat_natCast, ← conts_nil] at hdel
        have hok : i64ok (i : Int) := ⟨by omega, by omega⟩
        have Hct := Lib.hid hct
        have Hnx := Lib.hid hnx
        have Hdel := Lib.hid hdel
        have HM4 := Lib.hid hM3
        have HW1 := Lib.hid hW1
        have Hcq2 := Lib.hid hcq2
        clear hct hnx hql hM hM1 hM3 hW1 e4 hcq2 hcq O ho hoq hob hly hF0 hiF hF hLI htk hy hny hvT cT2 hdel hy1 h2
        go_wp2_with fail
        refine Hct.out.mono ?_
        rintro e w5 ⟨rfl, rfl⟩
        go_upto_region 7 with (fail)
        rw [HW1.out]
        clear q0 q1 q2 m0 d0 bT
        go_wp2_with (first
          | (refine Mem.wp_delG (M := mapII) rfl (.tmp 37) (.tmp 38) rfl HM4.out 5 rfl rfl (i : Int) rfl hok ?_
             intro w6 hM6 hs6
             rw [Hdel.out] at hM6
             have HM6 := Lib.hid hM6
             clear hM6)
          | fail)
        go_roundw
        case rel =>
          refine ⟨k + 1, cq.set i none, by omega, by go_num, by rw [Hnx.out]; exact Hcq2.out, ?_⟩
          exact HM6.out.drop (List.Sublist.append_left (List.Sublist.append_left (List.sublist_cons_self _ _) _) (_ :: _ :: rA bx regs mv bm bt nt _ (cq.set i none) _ col words _))
        case measure => simp [intOf]; omega
    · obtain rfl : k = nT := by omega
      rw [List.take_of_length_le (by rw [HnT.out]; exact Nat.le_refl _), ← Hki.out] at hcq
      have hM4 : Mem B w0 wr (rowI 3 (.slice aL nL cL) L :: (rA bx regs mv bm bt nt (.slice aO n capO) cq (atF (conts cq) x.at_) col words (x.times + 1) ++ (objsE cq ++ T))) := hM.drop (List.sublist_cons_self _ _)
      have m3 : wr.cell? ⟨bm, 3, none⟩ = some (.int .i64 col) := hM4.cell 2 rfl 3
      have mb : bm < wr.heap.size := (hM4.box 2 rfl).2.1
      have hcs := HS.out
      rw [← hcq] at hcs
      have hpk := Hpk.out
      rw [← hcq] at hpk
      have hkl : ∀ y, Lives (conts cq) y → Lives (conts cs) y ∧ (objAt (conts cq) y).length ≤ 4 := fun y hy => by
        rw [hcq] at hy ⊢
        have h1 := killed_lives.1 hy
        refine ⟨h1.1, ?_⟩
        rw [killed_obj hy.1 h1.2]
        exact HF.out.flen _ _ h1.1.obj
      have hLq : ∀ y ∈ L, Lives (conts cq) y ∧ (objAt (conts cq) y).length ≤ 4 := fun y hy => by
        have h1 : Lives (conts cq) y := by rw [hcq]; exact killed_lives.2 ⟨HLm.out y hy, hy⟩
        exact ⟨h1, (hkl y h1).2⟩
      have e1 : ¬ (k : Int) < (k : Int) := by omega
      have hnt := Hnt.out
      have hat := Hat.out
      rw [conts_len, Hn.out] at hat
      rw [Hn.out] at hnt
      by_cases h2 : col = 2
      · subst h2
        rw [if_pos rfl] at hcs
        have hd := rdown_any B w0 bx regs mv bm bt nt (.slice aO n capO) cq 2 words (x.times + 1) T wr x.at_ aL nL cL L HnL.out (by omega) (by omega) hLq (by rw [hql]; exact hat) (by omega) hM4
        have Hd := Lib.hid hd
        have HcS := Lib.hid hcs
        clear hM4 hM hd hcs hpk hkl hLq hcq HS hql hat
        go_wp2_with fail
        refine Hd.out.mono ?_
        rintro e w5 ⟨rfl, hM5⟩
        have HM5 := Lib.hid hM5
        clear hM5 Hd
        go_wp2_with fail
        refine bodyPost_end (results_none rfl _ _ _) rfl ?_
        refine ⟨rfl, ?_⟩
        rw [HcS.out]
        exact ⟨_, cq, bt, nt + nL, rfl, by rw [conts_len, Hql.out]; show _ ≤ 900 * (x.times + 1) + (n : Int); omega, HM5.out⟩
      · have h2b : (col == 2) = false := by simpa using h2
        rw [if_neg h2] at hcs
        by_cases h3 : col = 3
        · subst h3
          rw [if_pos rfl] at hcs
          have hrw := rrow_any B w0 bx regs mv bm bt nt (.slice aO n capO) cq (atF (conts cq) x.at_) 3 words (x.times + 1) T wr x.at_ rfl hpk (by omega) (hM4.drop (List.sublist_cons_self _ _))
          have Hrw := Lib.hid hrw
          have HcS := Lib.hid hcs
          have hRn : (rowL (conts cq) x.at_).length ≤ n := by
            rw [(rowL_perm (conts cq) x.at_).length_eq]
            have := thereL_len (conts cq) (conts cq).length
            rw [conts_len, hql] at this
            rw [conts_len, hql]; exact this
          have hRl : ∀ y ∈ rowL (conts cq) x.at_, Lives (conts cq) y ∧ (objAt (conts cq) y).length ≤ 4 := fun y hy => ⟨mem_rowL.1 hy, (hkl y (mem_rowL.1 hy)).2⟩
          obtain ⟨RL, hRL⟩ : ∃ RL, rowL (conts cq) x.at_ = RL := ⟨_, rfl⟩
          rw [hRL] at hRn hRl HcS Hrw
          have HRl := Lib.hid hRl
          clear hM4 hM hrw hcs hpk hkl hLq hcq HS hRl hRL hql
          go_wp2_with fail
          refine Hrw.out.mono ?_
          rintro e w5 ⟨vr, rfl, hM5⟩
          obtain ⟨aR, cR, rfl⟩ := hM5.intsSlice 0 rfl
          obtain ⟨nR, hnR⟩ : ∃ nR, RL.length = nR := ⟨_, rfl⟩
          rw [hnR] at hRn hM5 ⊢
          have hd := rdown_any B w0 bx regs mv bm bt nt (.slice aO n capO) cq 3 words (x.times + 1) T w5 x.at_ aR nR cR RL hnR (by omega) (by omega) HRl.out (by rw [Hql.out]; exact hat) (by have := Hql.out; omega) hM5
          have Hd := Lib.hid hd
          clear hM5 hd hnR Hrw hat
          go_wp2_with fail
          refine Hd.out.mono ?_
          rintro e w6 ⟨rfl, hM6⟩
          have HM6 := Lib.hid hM6
          clear hM6 Hd
          go_wp2_with fail
          refine bodyPost_end (results_none rfl _ _ _) rfl ?_
          refine ⟨rfl, ?_⟩
          rw [HcS.out]
          exact ⟨_, cq, bt, nt + nR, rfl, by rw [conts_len, Hql.out]; show _ ≤ 900 * (x.times + 1) + (n : Int); omega, HM6.out⟩
        · have h3b : (col == 3) = false := by simpa using h3
          rw [if_neg h3] at hcs
          have HcS := Lib.hid hcs
          have HM5 := Lib.hid (hM4.drop (List.sublist_cons_self _ _))
          clear hM4 hM hcs hpk hkl hLq hcq HS hql hat
          go_wp2_with fail
          refine bodyPost_end (results_none rfl _ _ _) rfl ?_
          refine ⟨rfl, ?_⟩
          rw [HcS.out]
          exact ⟨_, cq, bt, nt, rfl, by rw [conts_len, Hql.out]; show _ ≤ 900 * (x.times + 1) + (n : Int); omega, HM5.out⟩
end
end Go.Proofs.Ytjnbnfmlpdnngaa

/- A memory with so many words: New, Hold; it is a memory. -/
namespace Go.Proofs.Ytjnbnfmlpdnngaa
open Go.RowKit Go.Shelf

theorem atF_push {os : Os} {a : List Int} (hl : a.length = os.length) (n : Nat) (x : Int) : (fun u => if u = (os.length : Int) then some (Value.int .i64 x) else atF os a u) = atF (os ++ [some (zerosV n)]) (a ++ [x]) := by
  funext u
  by_cases h : u = (os.length : Int)
  · subst h
    rw [if_pos rfl]
    unfold atF
    rw [if_pos ⟨by omega, by rw [Int.toNat_natCast, List.getElem?_append_right (Nat.le_refl _)]; simp⟩, cAt_push _ _ _ (by omega), if_pos (by rw [hl])]
  · rw [if_neg h]
    unfold atF
    by_cases hu : 0 ≤ u
    · have e2 : cAt (a ++ [x]) u = cAt a u := by rw [cAt_push _ _ _ hu, if_neg (by rw [hl]; exact h)]
      have e1 : (os ++ [some (zerosV n)])[u.toNat]? = os[u.toNat]? := by
        rcases Nat.lt_or_ge u.toNat os.length with h1 | h1
        · rw [List.getElem?_append_left h1]
        · rw [List.getElem?_eq_none (l := os) h1, List.getElem?_eq_none (by simp; omega)]
      rw [e1, e2]
    · rw [if_neg (fun h => hu h.1), if_neg (fun h => hu h.1)]
section
variable (B : Nat) (w0 : World) (bx : Nat) (regs : List V) (mv : Value) (bm : Nat) (col words : Int)
set_option maxRecDepth 100000 in
set_option maxHeartbeats 1000000 in
theorem rhold_any (T : List Ent) (w : World) (os : Os) (x : Rx) (r : Nat) (u : V) (hC : RM B w0 bx regs mv bm col words os x T w) :
    Calls Try.prog 133 #[.pointer (some ⟨bm, 0, none⟩), .int .i64 (r : Int), .agg #[.bool u.ref, .int .i64 u.n]] w fun e w' => e = .returned (.tuple #[]) ∧ RM B w0 bx regs mv bm col words os x T w' := by
  obtain ⟨vo, cs, bt, nt, h1, h2, h3⟩ := hC
  have HM := Lib.hid (h3.alloc_ (.cells #[.bool u.ref, .int .i64 u.n] 84))
  have H1 := Lib.hid h1
  have H2 := Lib.hid h2
  clear h1 h2 h3
  go_enter Try.func133, Try.ntmps133
  go_wp2_with fail
  refine bodyPost_end (results_none rfl _ _ _) rfl ⟨rfl, vo, cs, bt, nt, H1.out, H2.out, HM.out⟩
def RNewSays (T : List Ent) (s : Sm Rx) (n : Nat) (e : Ending) (w' : World) : Prop :=
  (((rKd col words).new s n).2 = none → e = .returned (.tuple #[.int .i64 0, .int .i64 6]) ∧ RM B w0 bx regs mv bm col words ((rKd col words).new s n).1.os ((rKd col words).new s n).1.x T w') ∧
  (((rKd col words).new s n).2 ≠ none → e = .returned (.tuple #[.int .i64 (s.os.length : Int), .int .i64 0]) ∧ RM B w0 bx regs mv bm col words ((rKd col words).new s n).1.os ((rKd col words).new s n).1.x T w')
set_option maxRecDepth 100000 in
set_option maxHeartbeats 8000000 in
theorem rnew_any (T : List Ent) (w : World) (os : Os) (x : Rx) (n : Nat) (hn : n ≤ 4) (hI : InvX words ⟨regs, os, x⟩) (ht : x.times < 100) (hwd : 0 ≤ words ∧ words ≤ 1000) (hC : RM B w0 bx regs mv bm col words os x T w) :
    Calls Try.prog 134 #[.pointer (some ⟨bm, 0, none⟩), .int .i64 (n : Int)] w fun e w' => RNewSays B w0 bx regs mv bm col words T ⟨regs, os, x⟩ n e w' := by
  have hC0 := hC
  have hlen0 := hI.len
  have hnew : (rKd col words).new ⟨regs, os, x⟩ n = if 0 ≤ roomS col words ⟨regs, os, x⟩ (1 + n) then (pushS ⟨regs, os, x⟩ n (roomS col words ⟨regs, os, x⟩ (1 + n)), some (os.length : Int))
    else if 0 ≤ roomS col words (clearS col ⟨regs, os, x⟩) (1 + n) then (pushS (clearS col ⟨regs, os, x⟩) n (roomS col words (clearS col ⟨regs, os, x⟩) (1 + n)), some (os.length : Int))
    else (clearS col ⟨regs, os, x⟩, none) := rfl
  unfold RNewSays
  obtain ⟨S, hS⟩ : ∃ S, (rKd col words).new ⟨regs, os, x⟩ n = S := ⟨_, rfl⟩
  rw [hS] at hnew ⊢
  clear hS
  have hw1 : IntKind.i64.wrap (1 + (n : Int)) = 1 + (n : Int) := IntWalk.i64_in _ (by omega)
  have hroom := fun (os : Os) (x : Rx) (hI : InvX words ⟨regs, os, x⟩) (w : World) (hC : RM B w0 bx regs mv bm col words os x T w) => (show Calls Try.prog 135 #[.pointer (some ⟨bm, 0, none⟩), .int .i64 (1 + (n : Int))] w fun e w' => e = .returned (.int .i64 (roomS col words ⟨regs, os, x⟩ (1 + n))) ∧ RM B w0 bx regs mv bm col words os x T w' by
    obtain ⟨vo, cs, bt, nt, rfl, h2, h3⟩ := hC
    refine (rroom_any B w0 bx regs mv bm bt nt vo cs col words x.times T w x.at_ (1 + (n : Int)) (by omega) hwd hI.pl (by have := hI.len; rw [conts_len] at this; exact Nat.le_trans this (by decide)) h3).mono ?_
    rintro e w' ⟨rfl, h4⟩
    exact ⟨rfl, vo, cs, bt, nt, rfl, h2, h4⟩)
  have hr1 := hroom os x hI w hC
  have hIc := hI.clear hwd.1 ht col
  have hclr := fun (w : World) (hC : RM B w0 bx regs mv bm col words os x T w) => rclear_any B w0 bx regs mv bm col words T w os x hI ht hC
  obtain ⟨C, hCl⟩ : ∃ C, clearS col ⟨regs, os, x⟩ = C := ⟨_, rfl⟩
  have hCr : C.regs = regs := by rw [← hCl]; rfl
  have hClen : C.os.length = os.length := by rw [← hCl]; exact killed_len _ _
  rw [hCl] at hnew hIc hclr
  obtain ⟨cr, co, cx⟩ := C
  simp only at hCr hClen hclr
  subst hCr
  have hr2 := hroom co cx hIc
  obtain ⟨R1, hR1⟩ : ∃ R1, roomS col words ⟨cr, os, x⟩ (1 + n) = R1 := ⟨_, rfl⟩
  obtain ⟨R2, hR2⟩ : ∃ R2, roomS col words ⟨cr, co, cx⟩ (1 + n) = R2 := ⟨_, rfl⟩
  rw [hR1] at hr1 hnew
  rw [hR2] at hr2 hnew
  have Hr1 := Lib.hid hr1
  have Hr2 := Lib.hid hr2
  have Hclr := Lib.hid hclr
  have hal := hI.pl.len
  have halc := hIc.pl.len
  have htm := hI.tm
  have htmc := hIc.tm
  simp only at hal halc htm htmc
  clear hr1 hr2 hclr hC hC0 hroom hI hIc hR1 hR2 hCl
  go_enter Try.func134, Try.ntmps134
  go_wp2_with fail
  refine Hr1.out.mono ?_
  rintro e w1 ⟨rfl, hC1⟩
  by_cases h1 : 0 ≤ R1
  · rw [if_pos h1] at hnew
    obtain ⟨vo, cs, bt, nt, hc, hnt, hM⟩ := hC1
    have HO : Hid ((os.length : Int) = (cs.length : Int)) := Lib.hid (by rw [← hc, conts_len])
    subst hc
    have HS := Lib.hid hnew
    rw [conts_len] at hnt hal hlen0
    have HAl : Hid (x.at_.length = (conts cs).length) := Lib.hid (by rw [conts_len]; exact hal)
    clear hnew hal halc htmc hClen
    have m0 : w1.cell? ⟨bm, 0, none⟩ = some vo := hM.cell 1 rfl 0
    have mb : bm < w1.heap.size := (hM.box 1 rfl).2.1
    have hnw := onew_any B w0 w1 _ 1 2 4 bm #[vo, .pointer (some ⟨bx, 0, none⟩), .map (some bt), .int .i64 col, .int .i64 words, .int .i64 x.times] 112 vo cs hM (oAt_of (A := rA bx cr mv bm bt nt vo cs (atF (conts cs) x.at_) col words x.times) rfl) rfl rfl (by decide) n hn (by omega)
    have Hnw := Lib.hid hnw
    have hpush := atF_push (os := conts cs) (a := x.at_) (by rw [HAl.out]) n R1
    have Hpush := Lib.hid hpush
    have hok : i64ok (cs.length : Int) := ⟨by omega, by omega⟩
    have hnk : nt ≤ 100000 := by omega
    have hRn : ¬ R1 < 0 := by omega
    have Hnt := Lib.hid hnt
    clear hnw hpush hM
    go_wp2_with fail
    refine Hnw.out.mono ?_
    rintro e w5 ⟨b', v', vo', rfl, hM7⟩
    have hM8 : Mem B w0 w5 ((rA bx cr mv bm bt nt vo' (cs ++ [some ⟨b', v', zerosV n⟩]) (atF (conts cs) x.at_) col words x.times) ++ (objsE (cs ++ [some ⟨b', v', zerosV n⟩]) ++ T)) := objs_push (c := some ⟨b', v', zerosV n⟩) (hM7.cast rfl)
    have m2 : w5.cell? ⟨bm, 2, none⟩ = some (.map (some bt)) := hM8.cell 1 rfl 2
    have mb5 : bm < w5.heap.size := (hM8.box 1 rfl).2.1
    have HM8 := Lib.hid hM8
    clear hM7 hM8 Hnw m0 mb
    go_wp2_with (first
      | (at_mapUpdate
         refine Mem.wp_putG (M := mapII) rfl (.tmp 34) (.tmp 35) (.tmp 36) rfl HM8.out 3 rfl hnk rfl (cs.length : Int) (.int .i64 R1) rfl rfl hok ?_
         intro w6 hM6 hs6
         have HM6 := Lib.hid hM6
         clear hM6)
      | fail)
    refine bodyPost_ret (v := .tuple #[.int .i64 (cs.length : Int), .int .i64 0]) (by simp [results, Try.results134, go_sem]) rfl ?_
    have hM9 := HM6.out
    refine ⟨fun h => absurd h (by rw [HS.out]; intro h; cases h), fun _ => ⟨by rw [HO.out], ?_⟩⟩
    rw [HS.out]
    refine ⟨vo', cs ++ [some ⟨b', v', zerosV n⟩], bt, nt + 1, by unfold pushS; simp [conts], ?_, ?_⟩
    · have h1 := Hnt.out
      unfold pushS
      simp only [List.length_append, List.length_singleton, conts_len]
      omega
    · unfold pushS
      show Mem B w0 w6 (rA bx cr mv bm bt (nt + 1) vo' (cs ++ [some ⟨b', v', zerosV n⟩]) (atF (conts cs ++ [some (zerosV n)]) (x.at_ ++ [R1])) col words x.times ++ _)
      rw [← Hpush.out, conts_len]
      exact hM9
  · rw [if_neg h1] at hnew
    have h1' : R1 < 0 := by omega
    have HC1 := Lib.hid hC1
    clear hC1
    go_wp2_with fail
    refine (Hclr.out _ HC1.out).mono ?_
    rintro e w2 ⟨rfl, hC2⟩
    have HC2 := Lib.hid hC2
    clear hC2
    go_wp2_with fail
    refine (Hr2.out _ HC2.out).mono ?_
    rintro e w3 ⟨rfl, hC3⟩
    by_cases h2 : 0 ≤ R2
    · rw [if_pos h2] at hnew
      obtain ⟨vo, cs, bt, nt, hc, hnt, hM⟩ := hC3
      have HO : Hid ((os.length : Int) = (cs.length : Int)) := Lib.hid (by rw [← hClen, ← hc, conts_len])
      have hcl : cs.length = os.length := by rw [← hClen, ← hc, conts_len]
      subst hc
      have HS := Lib.hid hnew
      rw [conts_len] at hnt halc
      rw [← hcl] at hlen0
      have HAl : Hid (cx.at_.length = (conts cs).length) := Lib.hid (by rw [conts_len]; exact halc)
      clear hnew hal halc htm hClen hcl
      have m0 : w3.cell? ⟨bm, 0, none⟩ = some vo := hM.cell 1 rfl 0
      have mb : bm < w3.heap.size := (hM.box 1 rfl).2.1
      have hnw := onew_any B w0 w3 _ 1 2 4 bm #[vo, .pointer (some ⟨bx, 0, none⟩), .map (some bt), .int .i64 col, .int .i64 words, .int .i64 cx.times] 112 vo cs hM (oAt_of (A := rA bx cr mv bm bt nt vo cs (atF (conts cs) cx.at_) col words cx.times) rfl) rfl rfl (by decide) n hn (by omega)
      have Hnw := Lib.hid hnw
      have hpush := atF_push (os := conts cs) (a := cx.at_) (by rw [HAl.out]) n R2
      have Hpush := Lib.hid hpush
      have hok : i64ok (cs.length : Int) := ⟨by omega, by omega⟩
      have hnk : nt ≤ 100000 := by omega
      have hRn : ¬ R2 < 0 := by omega
      have Hnt := Lib.hid hnt
      clear hnw hpush hM
      go_wp2_with fail
      refine Hnw.out.mono ?_
      rintro e w5 ⟨b', v', vo', rfl, hM7⟩
      have hM8 : Mem B w0 w5 ((rA bx cr mv bm bt nt vo' (cs ++ [some ⟨b', v', zerosV n⟩]) (atF (conts cs) cx.at_) col words cx.times) ++ (objsE (cs ++ [some ⟨b', v', zerosV n⟩]) ++ T)) := objs_push (c := some ⟨b', v', zerosV n⟩) (hM7.cast rfl)
      have m2 : w5.cell? ⟨bm, 2, none⟩ = some (.map (some bt)) := hM8.cell 1 rfl 2
      have mb5 : bm < w5.heap.size := (hM8.box 1 rfl).2.1
      have HM8 := Lib.hid hM8
      clear hM7 hM8 Hnw m0 mb
      go_wp2_with (first
        | (at_mapUpdate
           refine Mem.wp_putG (M := mapII) rfl (.tmp 34) (.tmp 35) (.tmp 36) rfl HM8.out 3 rfl hnk rfl (cs.length : Int) (.int .i64 R2) rfl rfl hok ?_
           intro w6 hM6 hs6
           have HM6 := Lib.hid hM6
           clear hM6)
        | fail)
      refine bodyPost_ret (v := .tuple #[.int .i64 (cs.length : Int), .int .i64 0]) (by simp [results, Try.results134, go_sem]) rfl ?_
      have hM9 := HM6.out
      refine ⟨fun h => absurd h (by rw [HS.out]; intro h; cases h), fun _ => ⟨by rw [HO.out], ?_⟩⟩
      rw [HS.out]
      refine ⟨vo', cs ++ [some ⟨b', v', zerosV n⟩], bt, nt + 1, by unfold pushS; simp [conts], ?_, ?_⟩
      · have h1 := Hnt.out
        unfold pushS
        simp only [List.length_append, List.length_singleton, conts_len]
        omega
      · unfold pushS
        show Mem B w0 w6 (rA bx cr mv bm bt (nt + 1) vo' (cs ++ [some ⟨b', v', zerosV n⟩]) (atF (conts cs ++ [some (zerosV n)]) (cx.at_ ++ [R2])) col words cx.times ++ _)
        rw [← Hpush.out, conts_len]
        exact hM9
    · rw [if_neg h2] at hnew
      have h2' : R2 < 0 := by omega
      have HS := Lib.hid hnew
      have HC3 := Lib.hid hC3
      clear hC3 hnew
      go_wp2_with fail
      refine bodyPost_ret (v := .tuple #[.int .i64 0, .int .i64 6]) (by simp [results, Try.results134, go_sem]) rfl ?_
      refine ⟨fun _ => ⟨rfl, by rw [HS.out]; exact HC3.out⟩, fun h => absurd (by rw [HS.out]) h⟩
end
end Go.Proofs.Ytjnbnfmlpdnngaa

/- A memory with so many words is a memory. -/
namespace Go.Proofs.Ytjnbnfmlpdnngaa
open Go.RowKit Go.Shelf
def IsX (bx bm : Nat) (col words : Int) (os : Os) (x : Rx) (L : List Ent) : Prop := ∃ vo cs bt nt, conts cs = os ∧ ((nt : Nat) : Int) ≤ 900 * x.times + (os.length : Int) ∧
  L = boxR bm bx bt vo col words x.times :: rowP vo cs :: gmap mapII bt nt (atF os x.at_) :: objsE cs
def xMv (bm : Nat) : Value := .iface 108 (.pointer (some ⟨bm, 0, none⟩))
/-- What is always so, with room for a clearing. -/
def InvX' (words : Int) (s : Sm Rx) : Prop := InvX words s ∧ s.x.times < 100
section
variable {B : Nat} {w0 : World} {bx bm : Nat} {regs : List V} {mv : Value} {col words : Int}
theorem xm_of {os : Os} {x : Rx} {L T : List Ent} {w : World} (h : IsX bx bm col words os x L) (hM : HoldsM B w0 bx regs mv L T w) : RM B w0 bx regs mv bm col words os x T w := by
  obtain ⟨vo, cs, bt, nt, h1, h2, rfl⟩ := h
  exact ⟨vo, cs, bt, nt, h1, h2, hM⟩
theorem xm_to {os : Os} {x : Rx} {T : List Ent} {w : World} (h : RM B w0 bx regs mv bm col words os x T w) : ∃ L, IsX bx bm col words os x L ∧ HoldsM B w0 bx regs mv L T w := by
  obtain ⟨vo, cs, bt, nt, h1, h2, h3⟩ := h
  exact ⟨_, ⟨vo, cs, bt, nt, h1, h2, rfl⟩, h3⟩
end
set_option maxRecDepth 100000 in
theorem xLen (k bm : Nat) (vo : Value) (w : World) (h : w.cell? ⟨bm, 0, none⟩ = some vo) :
    (method (k + 1) 108 (.pointer (some ⟨bm, 0, none⟩)) "Len").run Try.prog w = .ok (128, vo) w :=
  method_in (S := 112) (X := 77) (E := 123) (by kernel_rfl) (fun _ _ => by kernel_rfl) Try.underlying77 (fun _ => by kernel_rfl) k bm vo w h
set_option maxRecDepth 100000 in
theorem xGet (k bm : Nat) (vo : Value) (w : World) (h : w.cell? ⟨bm, 0, none⟩ = some vo) :
    (method (k + 1) 108 (.pointer (some ⟨bm, 0, none⟩)) "Get").run Try.prog w = .ok (126, vo) w :=
  method_in (S := 112) (X := 77) (E := 123) (by kernel_rfl) (fun _ _ => by kernel_rfl) Try.underlying77 (fun _ => by kernel_rfl) k bm vo w h
set_option maxRecDepth 100000 in
theorem xPut (k bm : Nat) (vo : Value) (w : World) (h : w.cell? ⟨bm, 0, none⟩ = some vo) :
    (method (k + 1) 108 (.pointer (some ⟨bm, 0, none⟩)) "Put").run Try.prog w = .ok (132, vo) w :=
  method_in (S := 112) (X := 77) (E := 123) (by kernel_rfl) (fun _ _ => by kernel_rfl) Try.underlying77 (fun _ => by kernel_rfl) k bm vo w h
theorem xNew (k bm : Nat) (w : World) :
    (method (k + 1) 108 (.pointer (some ⟨bm, 0, none⟩)) "New").run Try.prog w = .ok (134, .pointer (some ⟨bm, 0, none⟩)) w := by kernel_rfl
theorem xHold (k bm : Nat) (w : World) :
    (method (k + 1) 108 (.pointer (some ⟨bm, 0, none⟩)) "Hold").run Try.prog w = .ok (133, .pointer (some ⟨bm, 0, none⟩)) w := by kernel_rfl
theorem rput_atF {os : Os} {a : List Int} {i : Int} (hi : Lives os i) (l : List V) : atF (os.set i.toNat (some l)) a = atF os a := by
  funext u
  unfold atF
  by_cases hu : 0 ≤ u
  · by_cases e : i.toNat = u.toNat
    · have h1 := hi.obj
      rw [e] at h1
      have h2 := hi.lt
      rw [e] at h2
      rw [e, List.getElem?_set_self h2, h1]; rfl
    · rw [List.getElem?_set_ne e]
  · rw [if_neg (fun h => hu h.1), if_neg (fun h => hu h.1)]
set_option maxRecDepth 100000 in
theorem xface (B : Nat) (w0 : World) (bx bm : Nat) (col words : Int) (hwd : 0 ≤ words ∧ words ≤ 1000) : Face (rKd col words) (IsX bx bm col words) (InvX' words) B w0 bx (xMv bm) := by
  refine ⟨fun s h => h.1.fine, fun s v u hI => hI.1.fld, ?_, fun s i k u => rfl, fun s r u => rfl, ?_, ?_, ?_, ?_, ?_, ?_, ?_⟩
  · intro s n
    unfold rKd
    simp only
    split
    · rfl
    · split <;> rfl
  · rintro s L i hI ⟨vo, cs, bt, nt, hc, hnt, rfl⟩ hi
    rw [← hc] at hi
    obtain ⟨o, ho, hl⟩ := lives_cs hi
    rw [hc] at hl
    refine ⟨108, _, vo, 128, rfl, fun _ _ => rfl, fun T w h => ?_⟩
    have hM : Mem B w0 w (rA bx s.regs (xMv bm) bm bt nt vo cs (atF s.os s.x.at_) col words s.x.times ++ (objsE cs ++ T)) := h
    refine ⟨fun k => xLen k bm vo w (hM.cell 1 rfl 0), ?_⟩
    have := olen_any B w0 w _ 2 4 vo cs hM (oAt_of (A := rA bx s.regs (xMv bm) bm bt nt vo cs (atF s.os s.x.at_) col words s.x.times) rfl) i.toNat o ho
    rw [hl, Int.toNat_of_nonneg hi.1] at this
    exact this
  · rintro s L i k u hI ⟨vo, cs, bt, nt, hc, hnt, rfl⟩ hi hu
    rw [← hc] at hi
    obtain ⟨o, ho, hl⟩ := lives_cs hi
    rw [hc] at hl
    refine ⟨108, _, vo, 126, rfl, fun _ _ => rfl, fun T w h => ?_⟩
    have hM : Mem B w0 w (rA bx s.regs (xMv bm) bm bt nt vo cs (atF s.os s.x.at_) col words s.x.times ++ (objsE cs ++ T)) := h
    refine ⟨fun k => xGet k bm vo w (hM.cell 1 rfl 0), ?_⟩
    have := oget_any B w0 w _ 2 4 vo cs hM (oAt_of (A := rA bx s.regs (xMv bm) bm bt nt vo cs (atF s.os s.x.at_) col words s.x.times) rfl) i.toNat o ho k u (by rw [hl]; exact hu)
    rw [Int.toNat_of_nonneg hi.1] at this
    exact this
  · rintro s L i k u hI ⟨vo, cs, bt, nt, hc, hnt, rfl⟩ hi hk hu
    have hi2 := hi
    rw [← hc] at hi
    obtain ⟨o, ho, hl⟩ := lives_cs hi
    rw [hc] at hl
    refine ⟨108, _, vo, 132, rfl, fun _ _ => rfl, fun T w h => ?_⟩
    have hM : Mem B w0 w (rA bx s.regs (xMv bm) bm bt nt vo cs (atF s.os s.x.at_) col words s.x.times ++ (objsE cs ++ T)) := h
    refine ⟨fun k => xPut k bm vo w (hM.cell 1 rfl 0), ?_⟩
    have hp := oput_any B w0 w _ 2 4 vo cs hM (oAt_of (A := rA bx s.regs (xMv bm) bm bt nt vo cs (atF s.os s.x.at_) col words s.x.times) rfl) i.toNat o ho k (by rw [hl]; exact hk) u
    rw [Int.toNat_of_nonneg hi.1] at hp
    refine hp.mono ?_
    rintro e w' ⟨rfl, h2⟩
    have h3 := h2.cast (objs_set (A := rA bx s.regs (xMv bm) bm bt nt vo cs (atF s.os s.x.at_) col words s.x.times) (R := T) (c' := some ⟨o.b, o.v, o.l.set k u⟩) ho rfl)
    refine ⟨rfl, _, ⟨vo, cs.set i.toNat (some ⟨o.b, o.v, o.l.set k u⟩), bt, nt, ?_, ?_, rfl⟩, ?_⟩
    · show conts _ = s.os.set i.toNat (some ((objAt s.os i).set k u))
      rw [← hc] at hl ⊢
      unfold conts at hl ⊢
      rw [List.map_set]
      congr 2
      show some (o.l.set k u) = _
      rw [hl]
    · show _ ≤ 900 * s.x.times + ((s.os.set i.toNat _).length : Int)
      rw [List.length_set]; exact hnt
    · have e1 : atF ((rKd col words).put s i k u).os ((rKd col words).put s i k u).x.at_ = atF s.os s.x.at_ := rput_atF hi2 _
      rw [e1]
      have e2 : rowP vo (cs.set i.toNat (some ⟨o.b, o.v, o.l.set k u⟩)) = rowP vo cs := by
        unfold rowP
        rw [List.length_set, List.map_set]
        congr 1
        exact set_same (by rw [List.getElem?_map, ho]; rfl)
      rw [e2]
      exact h3
  · intro s L r u hI hL hr hu
    refine ⟨108, _, _, 133, rfl, fun _ _ => rfl, fun T w h => ⟨fun k => xHold k bm w, ?_⟩⟩
    refine (rhold_any B w0 bx s.regs (xMv bm) bm col words T w s.os s.x r u (xm_of hL h)).mono ?_
    rintro e w' ⟨rfl, h2⟩
    exact ⟨rfl, xm_to h2⟩
  · intro s L n hI hL hn he
    refine ⟨108, _, _, 134, rfl, fun _ _ => rfl, fun T w h => ⟨fun k => xNew k bm w, ?_⟩⟩
    refine (rnew_any B w0 bx s.regs (xMv bm) bm col words T w s.os s.x n hn hI.1 hI.2 hwd (xm_of hL h)).mono ?_
    intro e w' h2
    obtain ⟨h3, h4⟩ := h2.1 he
    exact ⟨h3, xm_to h4⟩
  · intro s L n o hI hL hn he
    have ho : o = (s.os.length : Int) := by
      unfold rKd at he
      simp only at he
      split at he
      · exact (Option.some.inj he).symm
      · split at he
        · exact (Option.some.inj he).symm
        · cases he
    subst ho
    refine ⟨108, _, _, 134, rfl, fun _ _ => rfl, fun T w h => ⟨fun k => xNew k bm w, ?_⟩⟩
    refine (rnew_any B w0 bx s.regs (xMv bm) bm col words T w s.os s.x n hn hI.1 hI.2 hwd (xm_of hL h)).mono ?_
    intro e w' h2
    obtain ⟨h3, h4⟩ := h2.2 (by show ((rKd col words).new s n).2 ≠ none; rw [he]; intro h; cases h)
    exact ⟨h3, xm_to h4⟩
  · intro s n o L1 r hI hn he hL hr8
    refine ⟨108, _, _, 133, rfl, fun _ _ => rfl, fun T w h => ⟨fun k => xHold k bm w, ?_⟩⟩
    refine (rhold_any B w0 bx s.regs (xMv bm) bm col words T w _ _ r ⟨true, o⟩ (xm_of hL h)).mono ?_
    rintro e w' ⟨rfl, h2⟩
    exact ⟨rfl, xm_to h2⟩
end Go.Proofs.Ytjnbnfmlpdnngaa
