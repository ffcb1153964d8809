/- comps.found, walked. -/
import Derived.Test.YtnpbdabboecpaaaN4
import Derived.Test.YtnpbdabboecpaaaD6
import Derived.Test.YtnpbdabboecpaaaRe
namespace Go.Proofs.Ytnpbdabboecpaaa
open Go.RowKit Go.Shelf Tarj

attribute [local go_sem] Oper.semAt_some

theorem rep_any {B : Nat} {w0 w : World} {L : List Ent} (x : Int) (hx : i64ok x) (n : Nat) (hn : n ≤ 1000) (hM : Mem B w0 w L) (b : Nat) (hm : ebox b #[.int .i64 x] 3 ∈ L) :
    Calls Try.prog 50 #[.slice (some ⟨b, 0, none⟩) 1 1, .int .i64 (n : Int)] w fun e w' => ∃ v, e = .returned v ∧ Mem B w0 w' (rowI 3 v (List.replicate n x) :: L) := by
  refine (repeat_any _ x n (by omega) _ (hM.boxInts hm hx)).mono ?_
  rintro e wq ⟨vu, rfl, hMq⟩
  exact ⟨vu, rfl, hM.callMem hMq⟩

theorem rep_cps {B : Nat} {w0 w : World} {L : List Ent} {x : Int} {n : Nat} (hx : i64ok x) (hn : n ≤ 1000) {b : Nat} {R : Ending → World → Prop} (hM : Mem B w0 w L) (hm : ebox b #[.int .i64 x] 3 ∈ L)
    (h : ∀ v w', Mem B w0 w' (rowI 3 v (List.replicate n x) :: L) → R (.returned v) w') : Calls Try.prog 50 #[.slice (some ⟨b, 0, none⟩) 1 1, .int .i64 (n : Int)] w R := by
  refine (rep_any x hx n hn hM b hm).mono ?_
  rintro e w' ⟨v, rfl, hM2⟩
  exact h v w' hM2
theorem drew_heap (w : World) : w.drew.heap = w.heap := rfl
theorem mem_cps {B : Nat} {w0 W : World} {L A' : List Ent} (hM : Mem B w0 W L) (h : Mem B w0 W L → Mem B w0 W A') : Mem B w0 W A' := h hM
def BoxIn (B : Nat) (w0 w : World) (b : Nat) (c : Array Value) (t : TypeId) : Prop := ∃ L, Mem B w0 w L ∧ ebox b c t ∈ L
theorem BoxIn.both {B : Nat} {w0 w : World} {b : Nat} {x y : Value} {t : TypeId} (h : BoxIn B w0 w b #[x, y] t) : w.cell? ⟨b, 0, none⟩ = some x ∧ w.cell? ⟨b, 1, none⟩ = some y := by
  obtain ⟨L, h1, h2⟩ := h
  exact ⟨h1.boxCell h2 0 rfl, h1.boxCell h2 1 rfl⟩

def FoundC (g : G) (w w' : World) (vo vr : Value) (e : Ending) : Prop :=
  ∃ (Bs : Nat) (vL vA vst vC va : Value) (comp : List Int) (fs : List (Value × List Int)), e = .returned (.pointer (some ⟨Bs, 0, none⟩)) ∧ Res (EG g) g.objs.length (rd comp (-1)) (fs.map (·.2)) ∧ comp.length = g.objs.length ∧
    Mem w.heap.size w w' (ebox Bs #[vo, vr, vL, vA, vst, vC, va] 66 :: rowI 3 vC comp :: rowR va (fs.map (·.1)) :: rowsI fs)

set_option linter.unusedVariables false in
set_option linter.unusedSimpArgs false in
set_option maxRecDepth 100000 in
set_option maxHeartbeats 4000000 in
theorem foundC_any (g : G) (hG : Good g) (vo vr : Value) (w : World) (hg : IsGraph w (.agg #[vo, vr]) g) :
    Calls Try.prog 37 #[.agg #[vo, vr]] w fun e w' => FoundC g w w' vo vr e := by
  obtain ⟨vo1, vr1, he, ho, hr⟩ := hg
  cases he
  obtain ⟨ao, co, rfl, hlo⟩ := ho.slice
  obtain ⟨ar, cr, rfl, hlr⟩ := hr.slice
  have Ho := Lib.hid ho
  have hn := hG.objs
  have HG := Lib.hid hG
  clear ho hr hG
  have hN := (Mem.start w).alloc #[.slice ao g.objs.length co, .slice ar g.roots.length cr] 25
  go_enter Try.func37, Try.ntmps37
  go_wp2_with fail
  go_cut [4] from 9 to 18 (fun s4 W => ∃ (Bs gL gA : Nat) (vC : Value), s4 = .pointer (some ⟨Bs, 0, none⟩) ∧ Mem w.heap.size w W [ebox Bs #[.slice ao g.objs.length co, .slice ar g.roots.length cr, .slice (some ⟨gL, 0, none⟩) g.objs.length g.objs.length, .slice (some ⟨gA, 0, none⟩) g.objs.length g.objs.length, .slice none 0 0, vC, .slice none 0 0] 66, rowI 3 (.slice (some ⟨gL, 0, none⟩) g.objs.length g.objs.length) (List.replicate g.objs.length 0), rowI 3 (.slice (some ⟨gA, 0, none⟩) g.objs.length g.objs.length) (List.replicate g.objs.length 0), rowI 3 vC (List.replicate g.objs.length (-1)), ebox w.heap.size #[.slice ao g.objs.length co, .slice ar g.roots.length cr] 25])
  case first =>
    obtain ⟨Wz, hWz⟩ : ∃ Wz, w.alloc (.cells #[.slice ao g.objs.length co, .slice ar g.roots.length cr] 25) = Wz := ⟨_, rfl⟩
    rw [hWz] at hN ⊢
    clear hWz
    obtain ⟨mk, hmk, hmo⟩ := make_fun elemInts g.objs.length (by omega)
    have HK := Lib.hid (hmo w.heap.size w)
    have hi2 : i64ok (-1) := ⟨by omega, by omega⟩
    have HNz := Lib.hid hN
    clear hmo hN
    go_region_held3 (fun W => W.cell? ⟨w.heap.size, 0, none⟩ = some (.slice ao g.objs.length co) ∧ W.cell? ⟨w.heap.size, 1, none⟩ = some (.slice ar g.roots.length cr))
      (first | ((refine BoxIn.both (B := w.heap.size) (w0 := w) (t := 25) ?_; apply Exists.intro; apply And.intro; (focus (repeat (first | exact hR | exact HNz.out | with_reducible apply Mem.drew | with_reducible apply HK.out | with_reducible apply Mem.alloc))); (focus (repeat (first | exact List.mem_cons_self | refine List.mem_cons_of_mem _ ?_))))) | fail)
      (first
        | (go_at_call 50
           apply rep_cps (B := w.heap.size) (w0 := w) (x := -1) (n := g.objs.length) hi2 (by omega)
           (focus (repeat (first | exact hR | exact HNz.out | with_reducible apply Mem.drew | with_reducible apply HK.out | with_reducible apply Mem.alloc)))
           (focus (repeat (first | exact List.mem_cons_self | refine List.mem_cons_of_mem _ ?_)))
           intro vu wq hR
           obtain ⟨au2, cu2, hvu⟩ := hR.intsSlice 0 rfl
           rw [List.length_replicate] at hvu
           subst hvu)
        | fail)
    all_goals
      go_wp2_with fail
      go_meet
      apply Exists.intro; apply Exists.intro; apply Exists.intro; apply Exists.intro
      apply And.intro
      focus rfl
      apply mem_cps
      (focus (repeat (first | exact hR | exact HNz.out | with_reducible apply Mem.drew | with_reducible apply HK.out | with_reducible apply Mem.alloc)))
      intro hF
      try simp only [drew_heap, World.size_alloc] at hF
      first | exact hF.pick0 [0, 1, 2, 3, 5] (by decide) rfl | exact hF.pick0 [0, 1, 2, 4, 5] (by decide) rfl | exact hF.pick0 [0, 1, 3, 2, 5] (by decide) rfl | exact hF.pick0 [0, 1, 3, 4, 5] (by decide) rfl | exact hF.pick0 [0, 1, 4, 2, 5] (by decide) rfl | exact hF.pick0 [0, 1, 4, 3, 5] (by decide) rfl | exact hF.pick0 [0, 2, 1, 3, 5] (by decide) rfl | exact hF.pick0 [0, 2, 1, 4, 5] (by decide) rfl | exact hF.pick0 [0, 2, 3, 1, 5] (by decide) rfl | exact hF.pick0 [0, 2, 3, 4, 5] (by decide) rfl | exact hF.pick0 [0, 2, 4, 1, 5] (by decide) rfl | exact hF.pick0 [0, 2, 4, 3, 5] (by decide) rfl | exact hF.pick0 [0, 3, 1, 2, 5] (by decide) rfl | exact hF.pick0 [0, 3, 1, 4, 5] (by decide) rfl | exact hF.pick0 [0, 3, 2, 1, 5] (by decide) rfl | exact hF.pick0 [0, 3, 2, 4, 5] (by decide) rfl | exact hF.pick0 [0, 3, 4, 1, 5] (by decide) rfl | exact hF.pick0 [0, 3, 4, 2, 5] (by decide) rfl | exact hF.pick0 [0, 4, 1, 2, 5] (by decide) rfl | exact hF.pick0 [0, 4, 1, 3, 5] (by decide) rfl | exact hF.pick0 [0, 4, 2, 1, 5] (by decide) rfl | exact hF.pick0 [0, 4, 2, 3, 5] (by decide) rfl | exact hF.pick0 [0, 4, 3, 1, 5] (by decide) rfl | exact hF.pick0 [0, 4, 3, 2, 5] (by decide) rfl | fail
  case rest =>
    obtain ⟨Bs, gL, gA, vC, rfl, hM⟩ := hcut
    clear hN
    by_cases h0 : g.objs.length = 0
    · have hM2 : Mem w.heap.size w wc (ebox Bs #[.slice ao g.objs.length co, .slice ar g.roots.length cr, .slice (some ⟨gL, 0, none⟩) g.objs.length g.objs.length, .slice (some ⟨gA, 0, none⟩) g.objs.length g.objs.length, .slice none 0 0, vC, .slice none 0 0] 66 :: rowI 3 vC (List.replicate g.objs.length (-1)) :: rowR (.slice none 0 0) [] :: rowsI []) :=
        (hM.nil 27 1).pick0 [1, 4, 0] (by decide) rfl
      have hRes : Res (EG g) g.objs.length (rd (List.replicate g.objs.length (-1)) (-1)) (([] : List (Value × List Int)).map (·.2)) := by
        have h1 := (TInv.start (E := EG g) (n := g.objs.length)).end_ (fun x h1 h2 => by omega)
        have h2 : rd (List.replicate g.objs.length (-1)) (-1) = fun _ => (-1 : Int) := rd_rep _ _ _ rfl
        rw [h2]; exact h1
      have HM2 := Lib.hid hM2
      have HRes := Lib.hid hRes
      have H0 := Lib.hid h0
      clear hM hM2 hRes
      have h00 : ¬ (0 : Int) < (g.objs.length : Int) := by omega
      clear h0
      go_wp2
      go_loopw [5, 20] (fun s5 s20 wr => s20 = .int .i64 0 ∧ wr = wc) (fun _ i _ => 0)
      case atStart => exact ⟨rfl, rfl⟩
      case round =>
        obtain ⟨rfl, rfl⟩ := hrel
        go_wp2
        go_ret
        exact ⟨Bs, _, _, _, vC, _, _, [], rfl, HRes.out, by simp, HM2.out⟩
    · obtain ⟨gC, cC, rfl, _⟩ := hM.intsAt 3 rfl (by intro e; have := congrArg List.length e; rw [List.length_replicate] at this; exact h0 this)
      rw [List.length_replicate] at hM
      obtain ⟨E, hEe⟩ : ∃ E : CompEnv, E = ⟨g, w, .slice ao g.objs.length co, .slice ar g.roots.length cr, Bs, gL, gA, gC, cC⟩ := ⟨_, rfl⟩
      have hE : E.Ok := by subst hEe; exact ⟨HG.out, Ho.out⟩
      have hM2 : Mem E.w0.heap.size E.w0 wc (E.own ⟨List.replicate g.objs.length 0, List.replicate g.objs.length 0, List.replicate g.objs.length (-1), [], .slice none 0 0, .slice none 0 0, []⟩ [ebox w.heap.size #[.slice ao g.objs.length co, .slice ar g.roots.length cr] 25]) := by
        subst hEe
        exact ((hM.nil 27 1).nilI 3).pick0 [2, 3, 4, 5, 0, 1, 6] (by decide) rfl
      have hts : (CS.mk (List.replicate g.objs.length 0) (List.replicate g.objs.length 0) (List.replicate g.objs.length (-1)) [] (.slice none 0 0) (.slice none 0 0) []).ts = Tarj.start := by
        unfold CS.ts Tarj.start
        simp only [TS.mk.injEq, List.map_nil, and_true]
        exact ⟨rd_rep _ _ _ rfl, rd_rep _ _ _ rfl, rd_rep _ _ _ rfl⟩
      have e1 : E.g = g := by subst hEe; rfl
      have e2 : E.w0 = w := by subst hEe; rfl
      have e3 : E.Bs = Bs := by subst hEe; rfl
      have e4 : E.vA = .slice (some ⟨gA, 0, none⟩) g.objs.length g.objs.length := by subst hEe; rfl
      have HE := Lib.hid hE
      have HM2 := Lib.hid hM2
      have Hts := Lib.hid hts
      have HEe := Lib.hid hEe
      have E1 := Lib.hid e1
      have E2 := Lib.hid e2
      have E3 := Lib.hid e3
      have E4 := Lib.hid e4
      clear hM hM2 hts hE hEe e1 e2 e3 e4 h0
      go_wp2
      go_loopw [5, 20] (fun s5 s20 wr => ∃ (k : Nat) (s : CS), k ≤ g.objs.length ∧ s20 = .int .i64 (k : Int) ∧ s.Ok g.objs.length ∧ TInv (EG g) g.objs.length s.ts (fun _ => False) ∧ (∀ x, 0 ≤ x → x < (k : Int) → s.ts.at_ x ≠ 0) ∧ Mem E.w0.heap.size E.w0 wr (E.own s [ebox w.heap.size #[.slice ao g.objs.length co, .slice ar g.roots.length cr] 25])) (fun _ i _ => g.objs.length - (intOf i).toNat)
      case atStart => exact ⟨0, _, Nat.zero_le _, rfl, ⟨by simp, by simp, by simp⟩, by rw [Hts.out]; exact TInv.start, fun x h1 h2 => by omega, HM2.out⟩
      case round =>
        obtain ⟨k, s, hk, rfl, hok, hinv, hseen, hM⟩ := hrel
        by_cases hlt : k < g.objs.length
        · obtain ⟨a, ha⟩ := get_some s.at_ k (by rw [hok.at_]; exact hlt)
          have p0 : wr.cell? ⟨Bs, 3, none⟩ = some (.slice (some ⟨gA, 0, none⟩) g.objs.length g.objs.length) := by have := hM.cell 0 rfl 3; rw [E3.out] at this; rw [this]; show some E.vA = _; rw [E4.out]
          have hgA : E.gA = gA := by rw [HEe.out]
          obtain ⟨p1, _⟩ := hM.intAt 2 rfl ha
          rw [hgA] at p1
          have hk1 : (0 : Int) ≤ (k : Int) := by omega
          have hk2 : (k : Int) < (g.objs.length : Int) := by omega
          have hat : s.ts.at_ (k : Int) = a := by show rd s.at_ 0 (k : Int) = a; exact rd_some ha
          by_cases ha0 : a = 0
          · subst ha0
            have hcall := callsIn_wide.1 (walk_all E HE.out _ s k (fun _ => False) wr _ (by rw [E1.out]; exact hok) (by rw [E1.out]; exact hinv) ha (fun x h => h.elim) (Nat.le_refl _) hM)
            rw [E3.out] at hcall
            have Hcall := Lib.hid hcall
            have Hseen := Lib.hid hseen
            clear hM hinv hok hseen ha hcall hat hgA
            go_wp2_with fail
            refine Hcall.out.mono ?_
            rintro e w6 ⟨s2, rfl, hS2, hk3, hM2, _⟩
            rw [E1.out] at hS2 hk3
            have hseen2 : ∀ x, 0 ≤ x → x < ((k + 1 : Nat) : Int) → s2.ts.at_ x ≠ 0 := fun x h1 h2 => by
              by_cases e : x = (k : Int)
              · subst e; exact hS2.here
              · have h3 := Hseen.out x h1 (by omega)
                rw [hS2.at_ x h3]; exact h3
            have HS2 := Lib.hid hS2
            have Hk3 := Lib.hid hk3
            have HM3 := Lib.hid hM2
            have Hseen2 := Lib.hid hseen2
            clear hS2 hk3 hM2 hseen2
            go_wp2
            go_roundw
            case rel => exact ⟨k + 1, s2, by omega, by go_num, Hk3.out, HS2.out.inv, Hseen2.out, HM3.out⟩
            case measure => simp [intOf]; omega
          · have hseen2 : ∀ x, 0 ≤ x → x < ((k + 1 : Nat) : Int) → s.ts.at_ x ≠ 0 := fun x h1 h2 => by
              by_cases e : x = (k : Int)
              · subst e; rw [hat]; exact ha0
              · exact hseen x h1 (by omega)
            have Hinv := Lib.hid hinv
            have Hok := Lib.hid hok
            have HM3 := Lib.hid hM
            have Hseen2 := Lib.hid hseen2
            clear hM hinv hok hseen ha hat hgA hseen2
            go_wp2
            go_roundw
            case rel => exact ⟨k + 1, s, by omega, by go_num, Hok.out, Hinv.out, Hseen2.out, HM3.out⟩
            case measure => simp [intOf]; omega
        · obtain rfl : k = g.objs.length := by omega
          have hRes : Res (EG g) g.objs.length (rd s.comp (-1)) (s.fs.map (·.2)) := hinv.end_ hseen
          have hM4 : Mem w.heap.size w wr (ebox Bs #[.slice ao g.objs.length co, .slice ar g.roots.length cr, .slice (some ⟨gL, 0, none⟩) g.objs.length g.objs.length, .slice (some ⟨gA, 0, none⟩) g.objs.length g.objs.length, s.vst, .slice (some ⟨gC, 0, none⟩) g.objs.length cC, s.va] 66 :: rowI 3 (.slice (some ⟨gC, 0, none⟩) g.objs.length cC) s.comp :: rowR s.va (s.fs.map (·.1)) :: rowsI s.fs) := by
            have h := hM
            rw [HEe.out] at h
            exact h.drop (.cons_cons _ (.cons _ (.cons _ (.cons_cons _ (.cons _ (.cons_cons _ (.cons _ (.refl _))))))))
          have HRes := Lib.hid hRes
          have HM4 := Lib.hid hM4
          have Hok := Lib.hid hok
          clear hM hinv hok hseen hRes hM4 HM2
          go_wp2
          go_ret
          exact ⟨Bs, _, _, _, _, _, s.comp, s.fs, rfl, HRes.out, Hok.out.comp, HM4.out⟩
end Go.Proofs.Ytnpbdabboecpaaa
