/- Colours: Put, Hold, New. -/
import Derived.Test.YtjnbnfmlpdnngaaC4
import Derived.Test.YtjnbnfmlpdnngaaC1
import Derived.Deep.RegionHeld3
namespace Go.Proofs.Ytjnbnfmlpdnngaa
open Go.RowKit Go.Shelf

/-- A barrier behind its interface. -/
structure BarAt (bv : Value) (b : Int) : Prop where
  ex : ∃ (t : TypeId) (f : FuncId), bv = .iface t (.agg #[]) ∧ (∀ args w, (callFunc f args).run Try.prog w = .ok (.enter f args) w) ∧ (∀ k w, (method (k + 1) t (.agg #[]) "ragpicker/tri.field").run Try.prog w = .ok (f, .agg #[]) w) ∧
    ∀ B w0 bx regs mv bm bv vo cs vg gn, FieldSays B w0 bx regs mv bm bv vo cs vg gn f b
set_option maxRecDepth 100000 in
theorem bar1 : BarAt (.iface 120 (.agg #[])) 1 := ⟨⟨_, 136, rfl, fun _ _ => rfl, fun k w => by kernel_rfl, fun B w0 bx regs mv bm bv vo cs vg gn => field1_any B w0 bx regs mv bm bv vo cs vg gn⟩⟩
set_option maxRecDepth 100000 in
theorem bar2 : BarAt (.iface 121 (.agg #[])) 2 := ⟨⟨_, 137, rfl, fun _ _ => rfl, fun k w => by kernel_rfl, fun B w0 bx regs mv bm bv vo cs vg gn => field2_any B w0 bx regs mv bm bv vo cs vg gn⟩⟩
set_option maxRecDepth 100000 in
theorem bar3 : BarAt (.iface 122 (.agg #[])) 3 := ⟨⟨_, 138, rfl, fun _ _ => rfl, fun k w => by kernel_rfl, fun B w0 bx regs mv bm bv vo cs vg gn => field3_any B w0 bx regs mv bm bv vo cs vg gn⟩⟩
/-- A machine with a memory with colours. -/
def TM (B : Nat) (w0 : World) (bx : Nat) (regs : List V) (mv : Value) (bm : Nat) (bv : Value) (os : Os) (x : Tx) (T : List Ent) (w : World) : Prop := ∃ vo cs vc vg, conts cs = os ∧ Mem B w0 w (tA bx regs mv bm bv vo cs vc x.col vg x.gone ++ (objsE cs ++ T))
section
variable (B : Nat) (w0 : World) (bx : Nat) (regs : List V) (mv : Value) (bm : Nat) (bv : Value)
set_option maxRecDepth 100000 in
set_option maxHeartbeats 4000000 in
theorem tput_any (b : Int) (hB : BarAt bv b) (T : List Ent) (w : World) (os : Os) (x : Tx) (i k : Nat) (u : V) (hi : Lives os (i : Int)) (hk : k < (objAt os (i : Int)).length) (hcl : x.col.length = os.length) (hin : ∀ v ∈ objAt os (i : Int), InR x.col.length v) (hu : InR x.col.length u) (hC : TM B w0 bx regs mv bm bv os x T w) :
    Calls Try.prog 130 #[.pointer (some ⟨bm, 0, none⟩), .int .i64 (i : Int), .int .i64 (k : Int), .agg #[.bool u.ref, .int .i64 u.n]] w fun e w' => e = .returned (.tuple #[]) ∧
      TM B w0 bx regs mv bm bv (os.set i (some ((objAt os (i : Int)).set k u))) ⟨barC b x.col (i : Int) ((objAt os (i : Int)).getD k ⟨false, 0⟩) u, x.gone⟩ T w' := by
  obtain ⟨vo, cs, vc, vg, hc, hM⟩ := hC
  have hob := hi.obj
  rw [Int.toNat_natCast] at hob
  have hob2 := hob
  rw [← hc] at hob2
  obtain ⟨oc, hoc, hl⟩ := conts_get hob2
  rw [hc] at hl
  obtain ⟨o, ho⟩ := get_some (objAt os (i : Int)) k hk
  have hgo : (objAt os (i : Int)).getD k ⟨false, 0⟩ = o := by rw [List.getD_eq_getElem?_getD, ho]; rfl
  rw [hgo]
  have hoR := hin o (List.mem_of_getElem? ho)
  have hil : (i : Int) < (x.col.length : Int) := by have := hi.lt; rw [hcl]; omega
  have hMt : Mem B w0 (w.alloc (.cells #[.bool u.ref, .int .i64 u.n] 84)) (tA bx regs mv bm bv vo cs vc x.col vg x.gone ++ (objsE cs ++ (T ++ [ebox w.heap.size #[.bool u.ref, .int .i64 u.n] 84]))) := by
    have := hM.allocEnd (A := tA bx regs mv bm bv vo cs vc x.col vg x.gone) #[.bool u.ref, .int .i64 u.n] 84
    rwa [List.append_assoc] at this
  obtain ⟨W, hW⟩ : ∃ W, w.alloc (.cells #[.bool u.ref, .int .i64 u.n] 84) = W := ⟨_, rfl⟩
  obtain ⟨b7, hb7⟩ : ∃ b7, w.heap.size = b7 := ⟨_, rfl⟩
  rw [hW, hb7] at hMt
  have z0 : W.cell? ⟨b7, 0, none⟩ = some (.bool u.ref) := hMt.boxCell (c := #[.bool u.ref, .int .i64 u.n]) (t := 84) (by simp) 0 rfl
  have z1 : W.cell? ⟨b7, 1, none⟩ = some (.int .i64 u.n) := hMt.boxCell (c := #[.bool u.ref, .int .i64 u.n]) (t := 84) (by simp) 1 rfl
  have zb : b7 < W.heap.size := (hMt.boxFree (b := b7) (c := #[.bool u.ref, .int .i64 u.n]) (t := 84) (by simp) 0).2
  have m0 : W.cell? ⟨bm, 0, none⟩ = some vo := hMt.cell 1 rfl 0
  have m1 : W.cell? ⟨bm, 1, none⟩ = some bv := hMt.cell 1 rfl 1
  have mb : bm < W.heap.size := (hMt.box 1 rfl).2.1
  obtain ⟨ty, f, rfl, hent, hmeth, hfs⟩ := hB.ex
  have HGet : Hid (∀ X, Mem B w0 X (tA bx regs mv bm (.iface ty (.agg #[])) vo cs vc x.col vg x.gone ++ (objsE cs ++ (T ++ [ebox b7 #[.bool u.ref, .int .i64 u.n] 84]))) → Calls Try.prog 126 #[vo, .int .i64 (i : Int), .int .i64 (k : Int)] X fun e w' => e = .returned (.agg #[.bool o.ref, .int .i64 o.n]) ∧ Below X.heap.size X w') := Lib.hid fun X hX =>
    oget_any B w0 X _ 2 5 vo cs hX (oAt_of (A := tA bx regs mv bm (.iface ty (.agg #[])) vo cs vc x.col vg x.gone) rfl) i oc hoc k o (by rw [hl]; exact ho)
  have HFs : Hid (∀ X, Mem B w0 X (tA bx regs mv bm (.iface ty (.agg #[])) vo cs vc x.col vg x.gone ++ (objsE cs ++ (T ++ [ebox b7 #[.bool u.ref, .int .i64 u.n] 84]))) → Calls Try.prog f #[.agg #[], .pointer (some ⟨bm, 0, none⟩), .int .i64 (i : Int), .agg #[.bool o.ref, .int .i64 o.n], .agg #[.bool u.ref, .int .i64 u.n]] X fun e w' => e = .returned (.tuple #[]) ∧ ∃ vc', Mem B w0 w' (tA bx regs mv bm (.iface ty (.agg #[])) vo cs vc' (barC b x.col (i : Int) o u) vg x.gone ++ (objsE cs ++ (T ++ [ebox b7 #[.bool u.ref, .int .i64 u.n] 84])))) := Lib.hid fun X hX =>
    hfs B w0 bx regs mv bm _ vo cs vg x.gone _ vc X x.col (i : Int) o u hX hoR hu (by omega) hil
  have HMt := Lib.hid hMt
  have HW := Lib.hid hW
  have Hb7 := Lib.hid hb7
  have Hl := Lib.hid hl
  have Hoc := Lib.hid hoc
  have Hk := Lib.hid hk
  have Hc := Lib.hid hc
  clear hM hMt hW hb7 hc ho hgo hi hob hob2 hl hoc hk hcl hin hu hoR hil hB hfs
  go_enter Try.func130, Try.ntmps130
  go_upto_region 1 with (fail)
  rw [HW.out, Hb7.out]
  clear HW Hb7
  go_cut [] (fun X => ∃ vc', Mem B w0 X (tA bx regs mv bm (.iface ty (.agg #[])) vo cs vc' (barC b x.col (i : Int) o u) vg x.gone ++ (objsE cs ++ (T ++ [ebox b7 #[.bool u.ref, .int .i64 u.n] 84]))))
  case first =>
    go_region_held3 (fun X => X.cell? ⟨bm, 0, none⟩ = some vo ∧ X.cell? ⟨bm, 1, none⟩ = some (.iface ty (.agg #[])) ∧ X.cell? ⟨b7, 0, none⟩ = some (.bool u.ref) ∧ X.cell? ⟨b7, 1, none⟩ = some (.int .i64 u.n))
      (first
        | exact ⟨hM6.cell 1 rfl 0, hM6.cell 1 rfl 1, hM6.boxCell (c := #[.bool u.ref, .int .i64 u.n]) (t := 84) (by simp) 0 rfl, hM6.boxCell (c := #[.bool u.ref, .int .i64 u.n]) (t := 84) (by simp) 1 rfl⟩
        | exact ⟨hM6.drew.cell 1 rfl 0, hM6.drew.cell 1 rfl 1, hM6.drew.boxCell (c := #[.bool u.ref, .int .i64 u.n]) (t := 84) (by simp) 0 rfl, hM6.drew.boxCell (c := #[.bool u.ref, .int .i64 u.n]) (t := 84) (by simp) 1 rfl⟩
        | exact ⟨((show Below W.heap.size W _ from (by repeat (first | exact Below.refl _ _ | assumption | refine Below.setCell ?_ (by first | exact Nat.le_refl _ | (simp; done) | (simp; omega) | (simp at *; omega)) _ | refine Below.alloc ?_ (by first | exact Nat.le_refl _ | (simp; done) | (simp; omega) | (simp at *; omega)) _ | refine Below.drew ?_))).cell (p := ⟨_, _, none⟩) mb).trans m0, ((show Below W.heap.size W _ from (by repeat (first | exact Below.refl _ _ | assumption | refine Below.setCell ?_ (by first | exact Nat.le_refl _ | (simp; done) | (simp; omega) | (simp at *; omega)) _ | refine Below.alloc ?_ (by first | exact Nat.le_refl _ | (simp; done) | (simp; omega) | (simp at *; omega)) _ | refine Below.drew ?_))).cell (p := ⟨_, _, none⟩) mb).trans m1, ((show Below W.heap.size W _ from (by repeat (first | exact Below.refl _ _ | assumption | refine Below.setCell ?_ (by first | exact Nat.le_refl _ | (simp; done) | (simp; omega) | (simp at *; omega)) _ | refine Below.alloc ?_ (by first | exact Nat.le_refl _ | (simp; done) | (simp; omega) | (simp at *; omega)) _ | refine Below.drew ?_))).cell (p := ⟨_, _, none⟩) zb).trans z0, ((show Below W.heap.size W _ from (by repeat (first | exact Below.refl _ _ | assumption | refine Below.setCell ?_ (by first | exact Nat.le_refl _ | (simp; done) | (simp; omega) | (simp at *; omega)) _ | refine Below.alloc ?_ (by first | exact Nat.le_refl _ | (simp; done) | (simp; omega) | (simp at *; omega)) _ | refine Below.drew ?_))).cell (p := ⟨_, _, none⟩) zb).trans z1⟩
        | fail)
      (first
        | (go_at_call 126
           with_reducible refine (HGet.out _ (by first | exact HMt.out | exact HMt.out.drew)).mono ?_
           rintro e w5 ⟨rfl, hb5⟩
           have hB5 : Below W.heap.size W w5 := by
             refine (show Below W.heap.size W _ → _ from fun h => h.trans (hb5.mono h.size)) ?_
             exact (by repeat (first | exact Below.refl _ _ | assumption | refine Below.setCell ?_ (by first | exact Nat.le_refl _ | (simp; done) | (simp; omega) | (simp at *; omega)) _ | refine Below.alloc ?_ (by first | exact Nat.le_refl _ | (simp; done) | (simp; omega) | (simp at *; omega)) _ | refine Below.drew ?_)))
        | (refine (HFs.out _ ?_).mono ?_
           (focus (first | exact HMt.out.call hB5 | exact (HMt.out.call hB5).drew))
           rintro e w6 ⟨rfl, vc', hM6⟩)
        | fail)
    all_goals
      go_wp2_with fail
      go_meet
      first | exact ⟨vc', hM6⟩ | exact ⟨vc', hM6.drew⟩
  case rest =>
    obtain ⟨vc', hM3⟩ := hcut
    have y0 : wc.cell? ⟨b7, 0, none⟩ = some (.bool u.ref) := hM3.boxCell (c := #[.bool u.ref, .int .i64 u.n]) (t := 84) (by simp) 0 rfl
    have y1 : wc.cell? ⟨b7, 1, none⟩ = some (.int .i64 u.n) := hM3.boxCell (c := #[.bool u.ref, .int .i64 u.n]) (t := 84) (by simp) 1 rfl
    have yb : b7 < wc.heap.size := (hM3.boxFree (b := b7) (c := #[.bool u.ref, .int .i64 u.n]) (t := 84) (by simp) 0).2
    have n0 : wc.cell? ⟨bm, 0, none⟩ = some vo := hM3.cell 1 rfl 0
    have nb : bm < wc.heap.size := (hM3.box 1 rfl).2.1
    have HM3 := Lib.hid hM3
    clear hM3 z0 z1 zb m0 m1 mb HGet HFs HMt
    go_upto_region 2 with (fail)
    go_still_tail 7, (by kernel_rfl)
    go_wp2_with fail
    have hkl : k < oc.l.length := by rw [Hl.out]; exact Hk.out
    refine (oput_any B w0 wc.drew _ 2 5 vo cs HM3.out.drew (oAt_of (A := tA bx regs mv bm (.iface ty (.agg #[])) vo cs vc' (barC b x.col (i : Int) o u) vg x.gone) rfl) i oc Hoc.out k hkl u).mono ?_
    rintro e w4 ⟨rfl, hM4⟩
    have h1 := objs_set (A := tA bx regs mv bm (.iface ty (.agg #[])) vo cs vc' (barC b x.col (i : Int) o u) vg x.gone) (R := T ++ [ebox b7 #[.bool u.ref, .int .i64 u.n] 84]) Hoc.out (c' := some ⟨oc.b, oc.v, oc.l.set k u⟩) rfl
    have h2 : rowP vo (cs.set i (some ⟨oc.b, oc.v, oc.l.set k u⟩)) = rowP vo cs := by
      unfold rowP
      rw [List.length_set, List.map_set]
      congr 1
      exact set_same (by rw [List.getElem?_map, Hoc.out]; rfl)
    have hM5 := hM4.cast h1
    have e4 : tA bx regs mv bm (.iface ty (.agg #[])) vo cs vc' (barC b x.col (i : Int) o u) vg x.gone = tA bx regs mv bm (.iface ty (.agg #[])) vo (cs.set i (some ⟨oc.b, oc.v, oc.l.set k u⟩)) vc' (barC b x.col (i : Int) o u) vg x.gone := by
      unfold tA; rw [h2]
    rw [e4] at hM5
    have hC3 : TM B w0 bx regs mv bm (.iface ty (.agg #[])) (os.set i (some ((objAt os (i : Int)).set k u))) ⟨barC b x.col (i : Int) o u, x.gone⟩ T w4 := by
      refine ⟨vo, _, vc', vg, ?_, hM5.drop (List.Sublist.append_left (List.Sublist.append_left (List.sublist_append_left _ _) _) _)⟩
      rw [← Hl.out, ← Hc.out]
      unfold conts
      rw [List.map_set]; rfl
    have HC3 := Lib.hid hC3
    clear hM4 hM5 h1 h2 e4 hC3 n0 nb y0 y1 yb
    go_wp2_with fail
    refine bodyPost_end (results_none rfl _ _ _) rfl ⟨rfl, HC3.out⟩
end
end Go.Proofs.Ytjnbnfmlpdnngaa
