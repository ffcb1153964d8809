/- Epoch: what is old goes: step$2, IndexFunc, walked. -/
import Derived.Test.YtgmjhoekpbomiaaYc
import Derived.Test.YtgmjhoekpbomiaaYd
import Derived.Deep.DrawnRows
namespace Go.Proofs.Ytgmjhoekpbomiaa
open Go.RowKit

/-- append(l, y), y a struct in a new block: a step of a region that draws. -/
theorem Mem.step_appT' {P : Program} {B : Nat} {w0 w : World} {L : List Ent} {t e : TypeId} {z : Value} {α : Type} {sz bytes : Nat} {enc : α → List Value} (T : Elem P t e sz bytes z) {ops : Array Oper} {o : Oper} {ac : Act} {K : Act → World → Prop} {Q : Exit → Act → World → Prop} {E : Prop} (hgd : o.guard = none) (s x : Operand)
    (ho : o.op = .call { callee := .builtin .append, args := #[s, x], argTypes := #[t, t] }) (h : Mem B w0 w L) (k : Nat) {v : Value} {l : List α} (hk : L[k]? = some (rowT e sz enc v l))
    (hs : ac.eval s = v) (bl c : Nat) (y : α) (hx : ac.eval x = .slice (some ⟨bl, 0, none⟩) 1 c) (hc : ∀ j u, (enc y)[j]? = some u → w.cell? ⟨bl, j, none⟩ = some u) (hsz : (enc y).length = sz) (h1 : ∀ u ∈ enc y, u.oneCell' = true) (hn : l.length ≤ 1000000) (hb : bytes ≤ 1000)
    (hh : ∀ ad n' cap w', Mem B w0 w' (L.set k (rowT e sz enc (.slice ad n' cap) (l ++ [y]))) → w.heap.size ≤ w'.heap.size →
      (∀ b, b < w.heap.size → v.ownBlock ≠ some b → w'.heap[b]? = w.heap[b]?) → K (ac.put o.dst (.slice ad n' cap)) w') :
    if Region.wanted o (yielded ops ac.tmps) = true then Oper.wp P o ac w K Q else E := by
  obtain ⟨v', w', hr, h2, h3, h4, _, ad, cap, rfl⟩ := h.run_append T o.type k hk ⟨bl, 0, none⟩ 1 c (enc y) (by rw [hsz]; omega) (fun j u hj => by
    have e : (⟨bl, 0, none⟩ : Addr).add j = ⟨bl, j, none⟩ := by unfold Addr.add; split <;> simp_all
    rw [e]; exact hc j u hj) h1 (by simp only [maxLen]; omega) (by have := Nat.mul_le_mul (show l.length + 1 ≤ 1000001 by omega) hb; omega)
  exact step_append_eq' hgd s x t ho hs hx hr (hh ad _ cap w' (h2.cast (by simp [rowT])) h3 h4)
attribute [local go_sem ↓] Go.wp_at_zero Go.wp_at_succ
theorem elemWaits : Elem Try.prog 69 75 2 16 (.agg #[.int .i64 0, .int .i64 0]) := ⟨by kernel_rfl, info_parts (by kernel_rfl), rfl, by decide⟩

theorem fate_at (w : World) (p : Int × Int) (e : TypeId) : ∀ j u, (encF p)[j]? = some u → ((w.alloc (.cells #[.int .i64 p.1, .int .i64 p.2] e)).drew).cell? ⟨w.heap.size, j, none⟩ = some u := by
  intro j u hj
  have h2 : (#[Value.int .i64 p.1, .int .i64 p.2] : Array Value)[j]? = some u := by rw [← List.getElem?_toArray] at hj; exact hj
  simpa using h2
theorem fate_one (p : Int × Int) : ∀ u ∈ encF p, u.oneCell' = true := by
  intro u hu
  simp only [encF, List.mem_cons, List.not_mem_nil, or_false] at hu
  rcases hu with rfl | rfl <;> rfl
def ownE (Bw bP bI : Nat) (ep by_ : Int) (tv wv fv : Value) (ths : List Int) (W F : List (Int × Int)) : List Ent :=
  [ebox Bw #[.int .i64 ep, tv, wv, fv] 71, rowI 3 tv ths, rowT 75 2 encF wv W, rowT 32 2 encF fv F, ebox bP #[.pointer (some ⟨Bw, 0, none⟩)] 67, ebox bI #[.int .i64 by_] 3]
def oldF (ep by_ : Int) (x : Int × Int) : List (Int × Int) := if eold (ep - 1) x = true then [(x.1, by_)] else []
set_option maxRecDepth 100000 in
set_option maxHeartbeats 20000000 in
theorem old1_any (B : Nat) (w0 w : World) (Bw bP bI : Nat) (ep by_ : Int) (tv wv fv : Value) (ths : List Int) (W F : List (Int × Int)) (L' : List Ent) (x : Int × Int) (hM : Mem B w0 w (ownE Bw bP bI ep by_ tv wv fv ths W F ++ L')) (hep : 0 ≤ ep ∧ ep ≤ 1000) (hF : F.length ≤ 1000) :
    Calls Try.prog 38 #[.agg #[.int .i64 x.1, .int .i64 x.2], .pointer (some ⟨bP, 0, none⟩), .pointer (some ⟨bI, 0, none⟩)] w fun e w' => e = .returned (.bool (eold (ep - 1) x)) ∧ ∃ fv', Mem B w0 w' (ownE Bw bP bI ep by_ tv wv fv' ths W (F ++ oldF ep by_ x) ++ L') := by
  obtain ⟨W0, hW0⟩ : ∃ W0, w.alloc (.cells #[.int .i64 x.1, .int .i64 x.2] 75) = W0 := ⟨_, rfl⟩
  have hMx := hM.alloc #[.int .i64 x.1, .int .i64 x.2] 75
  obtain ⟨bx, hbx⟩ : ∃ bx, w.heap.size = bx := ⟨_, rfl⟩
  rw [hW0, hbx] at hMx
  have x1 : W0.cell? ⟨bx, 0, none⟩ = some (.int .i64 x.1) := by have := hMx.cell 0 rfl 0; simpa using this
  have x2 : W0.cell? ⟨bx, 1, none⟩ = some (.int .i64 x.2) := by have := hMx.cell 0 rfl 1; simpa using this
  have p1 : W0.cell? ⟨bP, 0, none⟩ = some (.pointer (some ⟨Bw, 0, none⟩)) := by have := hMx.cell 5 rfl 0; simpa using this
  have i1 : W0.cell? ⟨bI, 0, none⟩ = some (.int .i64 by_) := by have := hMx.cell 6 rfl 0; simpa using this
  have c1 : W0.cell? ⟨Bw, 0, none⟩ = some (.int .i64 ep) := by have := hMx.cell 1 rfl 0; simpa using this
  obtain ⟨t, ht⟩ : ∃ t, eold (ep - 1) x = t := ⟨_, rfl⟩
  have q1 : decide (x.2 ≤ ep - 2) = t := by rw [← ht]; unfold eold; congr 1; rw [show ep - 1 - 1 = ep - 2 by omega]
  have hof : oldF ep by_ x = if t = true then [(x.1, by_)] else [] := by unfold oldF; rw [ht]
  rw [ht, hof]
  have HMx := Lib.hid hMx
  have HW0 := Lib.hid hW0
  have Hbx := Lib.hid hbx
  clear hM hMx ht hof hW0 hbx
  cases t with
  | false =>
    go_enter Try.func38, Try.ntmps38
    go_wp2_with fail
    rw [Hbx.out, HW0.out]
    go_quiet (fail)
    go_wp2
    go_ret
    exact ⟨rfl, fv, ((HMx.out.drop (List.sublist_cons_self _ _)).drewN nq).cast (by simp)⟩
  | true =>
    go_enter Try.func38, Try.ntmps38
    go_wp2_with fail
    rw [Hbx.out, HW0.out]
    go_quiet (fail)
    go_wp2
    obtain ⟨W1, hW1⟩ : ∃ W1, W0.drewN nq = W1 := ⟨_, rfl⟩
    have hM1 := HMx.out.drewN nq
    rw [hW1] at hM1 ⊢
    clear x1 x2 p1 i1 c1 HMx hW1
    obtain ⟨af, nf, cf, rfl⟩ := own_slice (hM1.row 4 rfl)
    have x1 : W1.cell? ⟨bx, 0, none⟩ = some (.int .i64 x.1) := by have := hM1.cell 0 rfl 0; simpa using this
    have p1 : W1.cell? ⟨bP, 0, none⟩ = some (.pointer (some ⟨Bw, 0, none⟩)) := by have := hM1.cell 5 rfl 0; simpa using this
    have i1 : W1.cell? ⟨bI, 0, none⟩ = some (.int .i64 by_) := by have := hM1.cell 6 rfl 0; simpa using this
    have f3 : W1.frozen? ⟨Bw, 3, none⟩ = false := hM1.free 1 rfl 3
    have c3 : W1.cell? ⟨Bw, 3, none⟩ = some (.slice af nf cf) := by have := hM1.cell 1 rfl 3; simpa using this
    have z1 : bx < W1.heap.size := (hM1.box 0 rfl).2.1
    have z2 : bP < W1.heap.size := (hM1.box 5 rfl).2.1
    have z3 : bI < W1.heap.size := (hM1.box 6 rfl).2.1
    have z4 : Bw < W1.heap.size := (hM1.box 1 rfl).2.1
    have HMa := Lib.hid (hM1.alloc_ (.cells #[.int .i64 x.1, .int .i64 by_] 32)).drew
    clear hM1
    go_region_law (first
        | (refine Mem.step_appT' elemFates rfl (.tmp 19) (.tmp 24) rfl HMa.out 4 rfl rfl W1.heap.size 1 (x.1, by_) rfl (fate_at W1 (x.1, by_) _) rfl (fate_one (x.1, by_)) (by omega) (by decide) ?_
           intro ad n1 cp w5 hM5 hs5 hk5
           have q1 : w5.cell? ⟨bx, 0, none⟩ = some (.int .i64 x.1) := (by have := hM5.cell 0 rfl 0; simpa using this)
           have q2 : w5.cell? ⟨bP, 0, none⟩ = some (.pointer (some ⟨Bw, 0, none⟩)) := (by have := hM5.cell 5 rfl 0; simpa using this)
           have q3 : w5.cell? ⟨bI, 0, none⟩ = some (.int .i64 by_) := (by have := hM5.cell 6 rfl 0; simpa using this)
           have q4 : w5.cell? ⟨Bw, 3, none⟩ = some (.slice af nf cf) := (by have := hM5.cell 1 rfl 3; simpa using this)
           have q5 : w5.frozen? ⟨Bw, 3, none⟩ = false := hM5.free 1 rfl 3
           have hM6 := hM5.setBox 1 rfl 3 (.slice ad n1 cp)
           have r1 : (w5.setCell ⟨Bw, 3, none⟩ (.slice ad n1 cp)).cell? ⟨bx, 0, none⟩ = some (.int .i64 x.1) := (by have := hM6.cell 0 rfl 0; simpa using this)
           have r2 : (w5.setCell ⟨Bw, 3, none⟩ (.slice ad n1 cp)).cell? ⟨bP, 0, none⟩ = some (.pointer (some ⟨Bw, 0, none⟩)) := (by have := hM6.cell 5 rfl 0; simpa using this)
           have r3 : (w5.setCell ⟨Bw, 3, none⟩ (.slice ad n1 cp)).cell? ⟨bI, 0, none⟩ = some (.int .i64 by_) := (by have := hM6.cell 6 rfl 0; simpa using this)
           have HM6 := Lib.hid hM6
           clear hM6 hM5))
    all_goals
      go_wp2
      go_ret
      exact ⟨rfl, .slice ad n1 cp, (HM6.out.drop (List.sublist_cons_self _ _)).cast rfl⟩
end Go.Proofs.Ytgmjhoekpbomiaa
