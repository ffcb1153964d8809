/- Hazard: does, at an item that is retired. -/
import Derived.Test.YtgmjhoekpbomiaaZd
import Derived.StillTailTactics
import Derived.Deep.RegionLaw
namespace Go.Proofs.Ytgmjhoekpbomiaa
open Go.RowKit

theorem step_append_eq' {P : Program} {ops : Array Oper} {o : Oper} {a : Act} {w : World} {K : Act → World → Prop} {Q : Exit → Act → World → Prop} {E : Prop}
    (hg : o.guard = none) (s x : Operand) (t : TypeId) (hop : o.op = Op.call { callee := Callee.builtin Builtin.append, args := #[s, x], argTypes := #[t, t] })
    {v y v' : Value} {w' : World} (hs : a.eval s = v) (hx : a.eval x = y) (hr : (Builtin.append_ #[t, t] o.type #[v, y]).run P w = .ok v' w') (hK : K (a.put o.dst v') w') :
    if Region.wanted o (yielded ops a.tmps) = true then Oper.wp P o a w K Q else E := by
  have hw : Region.wanted o (yielded ops a.tmps) = true := by simp [Region.wanted, hg]
  rw [if_pos hw]
  unfold Oper.wp execOp
  simp only [hop, resolve, invoke, builtin, Sem.run_bind, Sem.run_pure, Result.andThen_ok, List.map_toArray, List.map_cons, List.map_nil, hs, hx, hr]
  exact hK
/-- append(l, y) in a region: y in a new block. -/
theorem Mem.step_appI' {P : Program} {B : Nat} {w0 w : World} {L : List Ent} {t e : TypeId} {z : Value} (T : Elem P t e 1 8 z) {ops : Array Oper} {o : Oper} {ac : Act} {K : Act → World → Prop} {Q : Exit → Act → World → Prop} {E : Prop} (hgd : o.guard = none) (s x : Operand)
    (ho : o.op = .call { callee := .builtin .append, args := #[s, x], argTypes := #[t, t] }) (h : Mem B w0 w L) (k : Nat) {v : Value} {l : List Int} (hk : L[k]? = some (rowI e v l))
    (hs : ac.eval s = v) (bl c : Nat) (y : Int) (hx : ac.eval x = .slice (some ⟨bl, 0, none⟩) 1 c) (hc : w.cell? ⟨bl, 0, none⟩ = some (.int .i64 y)) (hn : l.length ≤ 1000000)
    (hh : ∀ ad n' cap w', Mem B w0 w' (L.set k (rowI e (.slice ad n' cap) (l ++ [y]))) → w.heap.size ≤ w'.heap.size →
      (∀ b, b < w.heap.size → v.ownBlock ≠ some b → w'.heap[b]? = w.heap[b]?) → K (ac.put o.dst (.slice ad n' cap)) w') :
    if Region.wanted o (yielded ops ac.tmps) = true then Oper.wp P o ac w K Q else E := by
  obtain ⟨ad, n', cap, w', hr, _, h2, h3, h4⟩ := h.run_appI T o.type k hk y bl c hc hn
  exact step_append_eq' hgd s x t ho hs hx hr (hh ad n' cap w' h2 h3 h4)
set_option maxRecDepth 100000 in
set_option maxHeartbeats 1000000 in
theorem does_retire (B : Nat) (w0 w : World) (Bw : Nat) (fv : Value) (gone : List Bool) (fr : List (Int × Int)) (ths : List Th) (i m : Nat) (t : Th) (b : Int) (L' : List Ent) (gt capt : Nat) (hM : Mem B w0 w (ownH Bw (.slice (some ⟨gt, 0, none⟩) ths.length capt) fv gone fr ths ++ L'))
    (hO : HOk ths gone fr) (ht : ths[i]? = some t) (hi : m < 100) (hgo : gone.getD m false = false) :
    Calls Try.prog 24 #[.pointer (some ⟨Bw, 0, none⟩), .agg #[.int .i64 3, .int .i64 (i : Int), .int .i64 (m : Int)], .int .i64 b] w fun e w' => DoesSays B w0 Bw (.slice (some ⟨gt, 0, none⟩) ths.length capt) gone fr ths ⟨3, i, m⟩ b L' w' e := by
  have hil := (List.getElem?_eq_some_iff.1 ht).1
  obtain ⟨W0, hW0⟩ : ∃ W0, w.alloc (.cells #[.int .i64 3, .int .i64 (i : Int), .int .i64 (m : Int)] 34) = W0 := ⟨_, rfl⟩
  have hMd := hM.alloc #[.int .i64 3, .int .i64 (i : Int), .int .i64 (m : Int)] 34
  have hz0 : w.heap.size < W0.heap.size := by rw [← hW0]; simp
  have d0 : W0.cell? ⟨w.heap.size, 0, none⟩ = some (.int .i64 3) := by rw [← hW0]; simp
  have d1 : W0.cell? ⟨w.heap.size, 1, none⟩ = some (.int .i64 (i : Int)) := by rw [← hW0]; simp
  have d2 : W0.cell? ⟨w.heap.size, 2, none⟩ = some (.int .i64 (m : Int)) := by rw [← hW0]; simp
  rw [hW0] at hMd
  have hT := hO.thsL
  have hws := hO.wsL t (List.mem_of_getElem? ht)
  have hcode0 : hcode ths.length gone ⟨3, i, m⟩ = 0 := hcode_ok (by simp only; omega) (by simp only; rintro (h | h | ⟨_, h⟩) <;> omega) (by simp only; rintro ⟨_, h⟩; rw [Int.toNat_natCast, hgo] at h; cases h)
  have HR : Hid (∀ w' v', Mem B w0 w' (ownH Bw (.slice (some ⟨gt, 0, none⟩) ths.length capt) fv (gone.set m true) fr (ths.set i { t with wv := v', ws := t.ws ++ [(m : Int)] }) ++ L') → DoesSays B w0 Bw (.slice (some ⟨gt, 0, none⟩) ths.length capt) gone fr ths ⟨3, i, m⟩ b L' w' (.returned (.int .i64 0))) := Lib.hid (by
    intro w' v' hM5
    refine ⟨fv, gone.set m true, fr, _, by rw [hcode0], ?_, hM5⟩
    rw [hstep_ok (s := HSof ths gone fr) hcode0]
    unfold HSof hact
    rw [if_neg (by simp), if_neg (by simp), if_pos rfl]
    have h2 : (ths.map (·.g))[i]? = some t.g := by rw [List.getElem?_map, ht]; rfl
    obtain ⟨h3, h4⟩ := List.getElem?_eq_some_iff.1 h2
    have h6 : (ths.map (·.ws)).getD i [] = t.ws := by rw [List.getD_eq_getElem?_getD, List.getElem?_map, ht]; rfl
    simp only [List.map_set, Int.toNat_natCast, h6]
    congr 1
    rw [← h4, List.set_getElem_self])
  have c0 : W0.cell? ⟨Bw, 0, none⟩ = some (.slice (some ⟨gt, 0, none⟩) ths.length capt) := by
    have := hMd.cell 1 rfl 0
    rw [(worldC_at _ fv hO.goneL).1] at this; exact this
  have c1 : W0.cell? ⟨Bw, 1 + m, none⟩ = some (.bool false) := by
    have := hMd.cell 1 rfl (1 + m)
    rw [(worldC_at _ fv hO.goneL).2.1 m hi, hgo] at this; exact this
  have f1 : W0.frozen? ⟨Bw, 1 + m, none⟩ = false := hMd.free 1 rfl (1 + m)
  have c2 := ptr_cell (hMd.drop (List.sublist_cons_self _ _)) ht
  have z1 : t.b < W0.heap.size := (hMd.box (3 + 2 * i + 1) (by rw [List.getElem?_cons_succ]; exact own_box ht)).2.1
  have zb : Bw < W0.heap.size := (hMd.box 1 rfl).2.1
  have hw2 : decide ((i : Int) < 0) = false := decide_eq_false (by omega)
  have hw3 : decide ((ths.length : Int) ≤ (i : Int)) = false := decide_eq_false (by omega)
  have hw4 : decide (ths.length ≤ i) = false := decide_eq_false (by omega)
  have hi2 : decide ((m : Int) < 0) = false := decide_eq_false (by omega)
  have hi3 : decide (100 ≤ (m : Int)) = false := decide_eq_false (by omega)
  have HMd := Lib.hid hMd
  have HO := Lib.hid hO
  have Ht := Lib.hid ht
  have HW0 := Lib.hid hW0
  clear hM hMd hO ht hgo hcode0 hW0
  go_enter Try.func24, Try.ntmps24
  go_wp2_with fail
  rw [HW0.out]
  go_wp2
  go_quiet (fail)
  go_wp2
  go_quiet (fail)
  go_upto_region 8 with (fail)
  go_cut [8] (fun s8 X => s8 = .pointer (some ⟨t.b, 0, none⟩) ∧ ∃ n1 n2 n3, X = ((W0.drewN n1).drewN n2).drewN n3)
  case first =>
    go_quiet (fail)
    go_wp2_with fail
    go_meet
    exact ⟨rfl, _, _, _, rfl⟩
  case rest =>
    obtain ⟨rfl, n1, n2, n3, rfl⟩ := hcut
    obtain ⟨W1, hW1⟩ : ∃ W1, ((W0.drewN n1).drewN n2).drewN n3 = W1 := ⟨_, rfl⟩
    have hM1 := ((HMd.out.drewN n1).drewN n2).drewN n3
    rw [hW1] at hM1 ⊢
    have zz : W1.heap.size = W0.heap.size := by rw [← hW1]; simp
    have g2 : W1.cell? ⟨w.heap.size, 2, none⟩ = some (.int .i64 (m : Int)) := by have := hM1.cell 0 rfl 2; simpa using this
    have g0 : W1.cell? ⟨w.heap.size, 0, none⟩ = some (.int .i64 3) := by have := hM1.cell 0 rfl 0; simpa using this
    have gf : W1.frozen? ⟨Bw, 1 + m, none⟩ = false := hM1.free 1 rfl (1 + m)
    have gc : W1.cell? ⟨Bw, 1 + m, none⟩ = some (.bool (gone.getD m false)) := by
      have := hM1.cell 1 rfl (1 + m)
      rw [(worldC_at _ fv HO.out.goneL).2.1 m hi] at this; exact this
    have hM2 : Mem B w0 ((W1.setCell ⟨Bw, 1 + m, none⟩ (.bool true)).drew) (ebox w.heap.size #[.int .i64 3, .int .i64 (i : Int), .int .i64 (m : Int)] 34 :: (ownH Bw (.slice (some ⟨gt, 0, none⟩) ths.length capt) fv (gone.set m true) fr ths ++ L')) := by
      refine (hM1.setBox 1 rfl (1 + m) (.bool true)).drew.cast ?_
      rw [worldC_gone _ _ HO.out.goneL hi]; rfl
    have HM2 := Lib.hid hM2
    have y1 : w.heap.size < W1.heap.size := by rw [zz]; exact hz0
    have y2 : Bw < W1.heap.size := by rw [zz]; exact zb
    have y3 : t.b < W1.heap.size := by rw [zz]; exact z1
    clear hM1 hM2 zz hW1 d0 d1 d2 c0 c1 c2 f1 HMd
    have hb1 : (0 : Int) ≤ (m : Int) := by omega
    have hb2 : (m : Int) < 100 := by omega
    go_wp2
    go_still_tail 6, (by kernel_rfl)
    go_wp2
    obtain ⟨W2, hW2⟩ : ∃ W2, (W1.setCell ⟨Bw, 1 + m, none⟩ (.bool true)).drew = W2 := ⟨_, rfl⟩
    have hM3 := HM2.out
    rw [hW2] at hM3 ⊢
    have hbox : (ebox w.heap.size #[.int .i64 3, .int .i64 (i : Int), .int .i64 (m : Int)] 34 :: (ownH Bw (.slice (some ⟨gt, 0, none⟩) ths.length capt) fv (gone.set m true) fr ths ++ L'))[4 + 2 * i]? = some t.box := by
      rw [show 4 + 2 * i = (3 + 2 * i) + 1 by omega, List.getElem?_cons_succ]; exact own_box Ht.out
    have hrow : (ebox w.heap.size #[.int .i64 3, .int .i64 (i : Int), .int .i64 (m : Int)] 34 :: (ownH Bw (.slice (some ⟨gt, 0, none⟩) ths.length capt) fv (gone.set m true) fr ths ++ L'))[5 + 2 * i]? = some t.row := by
      rw [show 5 + 2 * i = (4 + 2 * i) + 1 by omega, List.getElem?_cons_succ]; exact own_row Ht.out
    have e1 : W2.cell? ⟨t.b, 1, none⟩ = some t.wv := by have := hM3.cell (4 + 2 * i) hbox 1; simpa using this
    have e2 : W2.cell? ⟨w.heap.size, 2, none⟩ = some (.int .i64 (m : Int)) := by have := hM3.cell 0 rfl 2; simpa using this
    have e3 : t.b < W2.heap.size := (hM3.box (4 + 2 * i) hbox).2.1
    have e4 : w.heap.size < W2.heap.size := (hM3.box 0 rfl).2.1
    have HMa := Lib.hid (hM3.alloc_ (.cells #[.int .i64 (m : Int)] 3)).drew
    have Hbox := Lib.hid hbox
    have Hrow := Lib.hid hrow
    have Hws := Lib.hid hws.1
    clear HM2 hM3 hbox hrow hW2 g2 g0 gf gc y1 y2 y3 hws
    go_region_law (refine Mem.step_appI' elemInts rfl (.tmp 95) (.tmp 98) rfl HMa.out (5 + 2 * i) Hrow.out rfl W2.heap.size 1 (m : Int) rfl (by simp) (by have := Hws.out; omega) ?_; intro ad n1 cp w5 hM5 hs5 hk5; have hb5 : (List.set (ebox w.heap.size #[.int .i64 3, .int .i64 (i : Int), .int .i64 (m : Int)] 34 :: (ownH Bw (.slice (some ⟨gt, 0, none⟩) ths.length capt) fv (gone.set m true) fr ths ++ L')) (5 + 2 * i) (rowI 3 (.slice ad n1 cp) (t.ws ++ [(m : Int)])))[4 + 2 * i]? = some t.box := (by rw [List.getElem?_set_ne (by omega)]; exact Hbox.out); have q8 : w5.frozen? ⟨t.b, 1, none⟩ = false := hM5.free (4 + 2 * i) hb5 1; have q9 : w5.cell? ⟨t.b, 1, none⟩ = some t.wv := (by have := hM5.cell (4 + 2 * i) hb5 1; simpa using this); have HM6 := Lib.hid (hM5.setBox (4 + 2 * i) hb5 1 (.slice ad n1 cp)); clear hM5 hb5)
    all_goals
      have hM7 : Mem B w0 (w5.setCell ⟨t.b, 1, none⟩ (.slice ad n1 cp)) (ownH Bw (.slice (some ⟨gt, 0, none⟩) ths.length capt) fv (gone.set m true) fr (ths.set i { t with wv := .slice ad n1 cp, ws := t.ws ++ [(m : Int)] }) ++ L') := by
        have h1 := HM6.out
        rw [show 5 + 2 * i = (4 + 2 * i) + 1 by omega, show (4 + 2 * i) = (3 + 2 * i) + 1 by omega, List.set_cons_succ, List.set_cons_succ, show (3 + 2 * i) + 1 = 4 + 2 * i by omega] at h1
        refine (h1.drop (List.sublist_cons_self _ _)).cast ?_
        rw [← own_set_row (L' := L') Ht.out { t with wv := .slice ad n1 cp, ws := t.ws ++ [(m : Int)] } rfl]
        rfl
      have HD := Lib.hid (HR.out _ _ hM7)
      clear hM7
      go_wp2
      go_ret
      exact HD.out
end Go.Proofs.Ytgmjhoekpbomiaa
