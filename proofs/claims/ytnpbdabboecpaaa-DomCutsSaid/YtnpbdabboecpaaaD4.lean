/- The search in depth, walked: post. -/
import Derived.Test.YtnpbdabboecpaaaD3
import Derived.Test.YtnpbdabboecpaaaSo
namespace Go.Proofs.Ytnpbdabboecpaaa
open Go.RowKit Go.Shelf Go.Sort

theorem revI_own (B : Nat) (w0 w : World) (L : List Ent) (hM : Mem B w0 w L) (k : Nat) (e : TypeId) (v : Value) (l : List Int) (hk : L[k]? = some (rowI e v l)) (hl : l.length ≤ 1000000) :
    Calls Try.prog 64 #[v] w fun e' w' => e' = .returned (.tuple #[]) ∧ Mem B w0 w' (L.set k (rowI e v l.reverse)) := by
  have hown := hM.ownI k hk
  rcases hown.2 with ⟨rfl, h0⟩ | ⟨g, cap, cur, rfl, hB, hg, hn, hcap, hcs, htk⟩
  · have h1 : l = [] := List.eq_nil_of_length_eq_zero h0
    subst h1
    refine (Try.slices_Reverse_int_empty none 0 w).mono ?_
    rintro e' w' ⟨rfl, rfl⟩
    refine ⟨rfl, hM.cast ?_⟩
    rw [show ([] : List Int).reverse = [] by simp]
    have hkl := (List.getElem?_eq_some_iff.1 hk)
    obtain ⟨h1, h2⟩ := hkl
    rw [← h2, List.set_getElem_self]
  · rw [Nat.mul_one] at htk
    refine (Try.slices_Reverse_int g 0 cap l w (holds_of_blockI hg htk) (by omega)).mono ?_
    rintro e' w' ⟨rfl, n, rfl⟩
    rw [← grow_empty (putRow _ _ _ _ _)]
    have hs := ownsRow_sortedI (n := n) (os := #[]) (e := e) (base := B) (ts := l.reverse) (ss := l) (by simp) hB hg hn hcap hcs
    refine ⟨rfl, hM.turn k hk (grownBy_sortedI _) ?_ (fun b hb => .inl hb)⟩
    have hrow := row_ok.2 hs
    unfold rowI
    rw [List.length_reverse]
    exact hrow
theorem elemFlags : Elem Try.prog 94 4 1 1 (.bool false) := ⟨by kernel_rfl, info_parts (by kernel_rfl), rfl, by decide⟩
section
variable {P : Program} {B : Nat} {w0 w : World} {L : List Ent}
theorem Mem.wp_makeS (T : Elem P 94 4 1 1 (.bool false)) {ops : Array Oper} {rest : List Oper} {o : Oper} {a : Act} {Q : Exit → Act → World → Prop} (hgd : o.guard = none) (l c : Operand) (hop : o.op = Op.makeSlice 94 l c)
    (h : Mem B w0 w L) (X Y : Int) (m : Nat) (hl : a.eval l = .int .i64 X) (hc : a.eval c = .int .i64 Y) (hX : X = (m : Int)) (hY : Y = (m : Int)) (hm : m ≤ 1000)
    (hK : ∀ w', Mem B w0 w' (rowS (.slice (some ⟨w.heap.size, 0, none⟩) m m) (List.replicate m false) :: L) → Below w.heap.size w w' → wpList P ops Q rest (a.put o.dst (.slice (some ⟨w.heap.size, 0, none⟩) m m)) w') :
    wpList P ops Q (o :: rest) a w := by
  obtain ⟨i, hi, hz, hs, hb⟩ := T.info
  exact wpList_make_full w hgd l c 94 hop w.heap.size 4 i _ 1 T.under hi hz hs .i64 .i64 X Y m hl hc hX hY (by rw [hb]; omega) (by simp [maxLen]; omega) (Nat.le_refl _) (fun w' h1 h2 => hK w' (by
    have h1b : w'.ownsRow w.heap.size 4 1 (.slice (some ⟨w.heap.size, 0, none⟩) m m) m (madeCells #[.bool false] (m * 1)).toList := h1
    rw [Nat.mul_one, toList_madeCells_one] at h1b
    exact (h.callRow (grown_below h2) h1b).cast (by simp [rowS])) (grown_below h2))
end

/-- What post tells: whatever is come to, once each, last found first. -/
def PostR (g : G) (F : List Int) : Prop := ∃ K new, F = new.reverse ∧ PostS g (List.replicate g.objs.length false) K new (targets g.roots)

set_option maxRecDepth 100000 in
set_option maxHeartbeats 4000000 in
theorem postF_any (g : G) (hG : Good g) (v : Value) (w : World) (hg : IsGraph w v g) :
    Calls Try.prog 49 #[v] w fun e w' => ∃ vl F, e = .returned vl ∧ PostR g F ∧ Mem w.heap.size w w' [rowI 3 vl F] := by
  obtain ⟨vo, vr, rfl, ho, hr⟩ := hg
  obtain ⟨ao, co, rfl, hlo⟩ := ho.slice
  obtain ⟨ar, cr, rfl, hlr⟩ := hr.slice
  have Ho := Lib.hid ho
  have Hr := Lib.hid hr
  have hn := hG.objs
  clear ho hr
  have hM0 := (Mem.start w).alloc #[.slice ao g.objs.length co, .slice ar g.roots.length cr] 25
  go_enter Try.func49, Try.ntmps49
  go_wp2_with (at_make; refine Mem.wp_makeS elemFlags rfl _ _ rfl hM0 _ _ g.objs.length rfl rfl (by go_num) (by go_num) (by omega) ?_; intro w1 hM1 hb1; have z1 : w.heap.size < w1.heap.size := (hM1.box 1 rfl).2.1; have z2 : w.heap.size < w1.heap.size + 1 := (by omega); have z3 : w.heap.size < w1.heap.size + 1 + 1 := (by omega); have q0 : w1.cell? ⟨w.heap.size, 1, none⟩ = some (.slice ar g.roots.length cr) := (by have := hM1.cell 1 rfl 1; simpa using this))
  obtain ⟨E, hEe⟩ : ∃ E : PostEnv, E = ⟨g, w, .slice ao g.objs.length co, .slice ar g.roots.length cr, w1.heap.size, w1.heap.size + 1 + 1, w.heap.size, w1.heap.size + 1, w.heap.size + 1⟩ := ⟨_, rfl⟩
  have hE : E.Ok := by subst hEe; exact ⟨hG, Ho.out⟩
  have hM1b : Mem w.heap.size w w1 [rowS (.slice (some ⟨w.heap.size + 1, 0, none⟩) g.objs.length g.objs.length) (List.replicate g.objs.length false), ebox w.heap.size #[.slice ao g.objs.length co, .slice ar g.roots.length cr] 25] := by
    simpa using hM1
  have hM2 := ((((hM1b.nilI 3).alloc #[.slice (some ⟨w.heap.size + 1, 0, none⟩) g.objs.length g.objs.length] 94).allocAt (w1.heap.size + 1) (by simp) #[.slice none 0 0] 27).allocAt (w1.heap.size + 1 + 1) (by simp) #[.func (.func 63) #[] #[.pointer (some ⟨w1.heap.size, 0, none⟩), .pointer (some ⟨w1.heap.size + 1 + 1, 0, none⟩), .pointer (some ⟨w.heap.size, 0, none⟩), .pointer (some ⟨w1.heap.size + 1, 0, none⟩)]] 95)
  have hM3 := hM2.pick0 (A' := PostEnv.own ⟨g, w, .slice ao g.objs.length co, .slice ar g.roots.length cr, w1.heap.size, w1.heap.size + 1 + 1, w.heap.size, w1.heap.size + 1, w.heap.size + 1⟩ (List.replicate g.objs.length false) (.slice none 0 0) [] []) [2, 4, 0, 5, 1, 3] (by decide) rfl
  have hcall := callsIn_wide.1 (post_all E hE _ (List.replicate g.objs.length false) [] (.slice none 0 0) g.roots (.slice ar g.roots.length cr) _ [] (by subst hEe; simp) (Nat.le_refl _) ⟨by simp, by simp⟩ (by subst hEe; exact Hr.out) (by subst hEe; exact fun v hv => List.mem_append_left _ hv) (by subst hEe; exact hM3))
  subst hEe
  refine hcall.mono ?_
  rintro e w3 ⟨K', new, vl, rfl, hS, hM4, _⟩
  have hln : new.length ≤ g.objs.length := by
    have h1 := (hS.lst ⟨by simp, by simp⟩).len (l := [] ++ new)
    have h2 := hS.len
    simp at h1 h2
    omega
  obtain ⟨al, cl, rfl⟩ := hM4.intsSlice 5 rfl
  have q1 : w3.cell? ⟨w1.heap.size + 1, 0, none⟩ = some (.slice al new.length cl) := by have := hM4.cell 4 rfl 0; simpa using this
  have HS := Lib.hid hS
  clear hcall hM3 hM2 hM1b hM1 hM0 hb1 hE hS
  go_wp2_with fail
  refine (revI_own _ _ _ _ hM4 5 3 _ new (by simp) (by omega)).mono ?_
  rintro e w4 ⟨rfl, hM5⟩
  have q2 : w4.cell? ⟨w1.heap.size + 1, 0, none⟩ = some (.slice al new.length cl) := by have := hM5.cell 4 rfl 0; simpa using this
  go_wp2
  refine bodyPost_ret (v := .slice al new.length cl) (by simp [results, Try.results49, go_sem]) rfl ⟨_, _, rfl, ⟨K', new, rfl, HS.out⟩, ?_⟩
  exact hM5.pick0 [5] (by decide) rfl
end Go.Proofs.Ytnpbdabboecpaaa
