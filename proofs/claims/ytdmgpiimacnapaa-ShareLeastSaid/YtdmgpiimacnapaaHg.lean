/- share.apart, walked. -/
import Derived.Test.YtdmgpiimacnapaaHf
import Derived.Test.YtdmgpiimacnapaaF1
import Derived.Test.YtdmgpiimacnapaaLi
import Derived.Laws.EntriesVeiled
namespace Go.Proofs.Ytdmgpiimacnapaa
open Go.RowKit Go.Shelf

attribute [local go_sem] Oper.semAt_some

theorem elemPairs : Elem Try.prog 102 65 2 16 (.agg #[.int .i64 0, .int .i64 0]) := ⟨by kernel_rfl, info_parts (by kernel_rfl), rfl, by decide⟩
def cellsP (p : Int × Int) : List Value := [.int .i64 p.1, .int .i64 p.2]
/-- A slice of pairs of the call's own. -/
def rowP (v : Value) (l : List (Int × Int)) : Ent := erow 65 2 v l.length (l.flatMap cellsP)
theorem rowP_calm (B : Nat) (v : Value) (l : List (Int × Int)) : (rowP v l).Calm B := erow_calm B _ 2 v _ _

theorem all_stops (n : Nat) (hn : 1 ≤ n) (Bg Bm b cnt : Nat) (ao : Option Addr) (co : Nat) (N : Nat) (hN : N ≤ 24) (m : Int × Int → Option Nat) (w0 : World) (hg : w0.cell? ⟨Bg, 0, none⟩ = some (.slice ao N co)) (hBg : Bg < w0.heap.size)
    (hm : w0.cell? ⟨Bm, 0, none⟩ = some (.map (some b))) (hBm : Bm < w0.heap.size) (hmap : (gmap mapPair b cnt (mapF m)).ok 0 w0) (w : World) (hw : Below w0.heap.size w0 w) :
    SeqStopsK Fence.wide n Try.prog 63 #[.pointer (some ⟨Bg, 0, none⟩), .pointer (some ⟨Bm, 0, none⟩)] (fun x : Pu N m => #[pairV x.1]) (Below w0.heap.size)
      (fun ys => ys.map (·.1) = unk N m) (fun pre => pre.map (·.1) <+: unk N m) ((unk N m).length + 1) w := fun lp J Jx W hW hJ _ hY h0 =>
  all1_in n hn lp Bg Bm b cnt ao co N hN m w0 hg hBg hm hBm hmap J Jx W hJ hY (hw.trans (hW.mono hw.size)) h0

theorem keepsOthers_below {W W' : World} (h : Below W.heap.size W W') : KeepsOthers W W' := ⟨h.size, fun k _ hk _ => (h.block k (Array.getElem?_eq_some_iff.1 hk).1).trans hk⟩
/-- A range over a function whose loop variable is boxed in every round, the box apart from what else is known. -/
theorem range_box2 {P : Program} {n : Nat} {α : Type} {g : Operand} {p : Tmp} {assign body : Code} {Q : Exit → Act → World → Prop} {a : Act} {w : World}
    (h1 : 1 ≤ n) {gf : Nat} {lb : Array Value} (hg : a.eval g = .func (.func gf) #[] lb) (eg : ∀ args w, (callFunc gf args).run P w = .ok (.enter gf args) w)
    {enc : α → Value} {n₀ : Nat} {S Sp : List α → Prop} {N : Nat} (hseq : SeqStopsK Fence.wide (n - 1) P gf lb (fun x => #[enc x]) (Below n₀) S Sp N w) (hn : n₀ ≤ w.heap.size)
    (I : List α → World → Prop) (Ix : Code → List α → World → Prop) (A : Nat → World → Prop) (hI : OwnFrom w.heap.size I) (hIx : ∀ c, OwnFrom w.heap.size (Ix c)) (hA : OwnFrom w.heap.size A) (h0 : I [] w) (slot : Nat) (T : TypeId) (cs : α → Array Value)
    (hA0 : ∀ pre W o, I pre W → w.heap.size ≤ W.heap.size → A W.heap.size (W.alloc o))
    (hassign : ∀ (l : Nat) (x : α) (W : World) (K : Act → World → Prop), K { tmps := (laid a p (enc x)).setIfInBounds slot (.pointer (some ⟨W.heap.size, 0, none⟩)), defers := [] } (W.alloc (.cells (cs x) T)) →
      assign.wpIn (Fence.wide.inRound l) (n - 1 - 1) P (Exit.then K (fun _ _ _ => False)) { tmps := laid a p (enc x), defers := [] } W)
    (hbody : ∀ (l : Nat) (pre : List α) (x : α) (W : World) (Bx : Nat), w.heap.size ≤ Bx → Bx < W.heap.size → W.heap[Bx]? = some (.cells (cs x) T (0, 0)) → A Bx W → w.heap.size ≤ W.heap.size → I pre W → pre.length < N →
      body.wpIn (Fence.wide.inRound l) (n - 1 - 1) P (ownPostG w.heap.size (Below n₀) I Ix (pre ++ [x]) W) { tmps := (laid a p (enc x)).setIfInBounds slot (.pointer (some ⟨Bx, 0, none⟩)), defers := [] } W)
    (hdone : ∀ (D : Nat) (xs : List α) (W : World), w.heap.size ≤ D → S xs → I xs W → W.heap[D]? = some (.deferred (some [])) → Q .normal { a with defers := { target := .collected D, args := #[] } :: a.defers } W)
    (hstop : ∀ (D : Nat) (c : Code) (pre : List α) (W : World), w.heap.size ≤ D → Sp pre → Ix c pre W → W.heap[D]? = some (.deferred (some [])) → c.wpIn Fence.wide n P Q { a with defers := { target := .collected D, args := #[] } :: a.defers } W) :
    (Code.rangeFunc g #[p] assign body).wpIn Fence.wide n P Q a w := by
  refine wpIn_rangeFunc_ownH (F := Fence.wide) rfl h1 hg trivial eg hseq belowK_t (belowK_b hn) (Below.refl _ _) (fun _ => rfl) (fun pre W => I pre W ∧ w.heap.size ≤ W.heap.size) Ix (hI.and (ownFrom_size _ _)) hIx ⟨h0, Nat.le_refl _⟩
    (fun x a' W => ∃ Bx, w.heap.size ≤ Bx ∧ W.heap[Bx]? = some (.cells (cs x) T (0, 0)) ∧ A Bx W ∧ a' = { tmps := (laid a p (enc x)).setIfInBounds slot (.pointer (some ⟨Bx, 0, none⟩)), defers := [] })
    ?_ ?_ ?_ (fun D xs W hD hS hi => hdone D xs W hD hS hi.1) hstop
  · rintro x a' s W W' row ⟨Bx, hB, hc, ha2, ha⟩ hg' hr
    refine ⟨Bx, hB, (hg'.block Bx (Array.getElem?_eq_some_iff.1 hc).1 ?_).trans hc, hA Bx W W' row ha2 hg' hr, ha⟩
    intro e
    obtain ⟨_, o, h2, h3⟩ := hr Bx e.symm
    rw [hc] at h2; cases h2; cases h3
  · intro l pre x W K ⟨hi, hz⟩ hK
    rw [foldl_one]
    exact hassign l x W K (hK _ _ ((KeepsOthers.alloc _ _).from _) ((Below.refl n₀ W).alloc (Nat.le_trans hn hz) _) ⟨hI.alloc _ hi, by simp; omega⟩ ⟨W.heap.size, hz, heap_alloc_new W _, hA0 pre W _ hi hz, rfl⟩)
  · rintro l pre x a' W hl ⟨r, hr⟩ ⟨hi, hz⟩ ⟨Bx, hB, hc, ha2, rfl⟩ hlen
    refine wpIn_mono (hbody l pre x W Bx hB (Array.getElem?_eq_some_iff.1 hc).1 hc ha2 hz hi hlen) ?_
    intro e a3 W3 hp
    cases e with
    | normal => exact ⟨hp.1, hp.2.1, hp.2.2, Nat.le_trans hz hp.1.size⟩
    | _ => exact hp
/-- A slice in a box does not lie in block Bx. -/
def OffBox (b : Nat) (T : TypeId) (Bx : Nat) (W : World) : Prop := Bx ≠ b ∧ ∃ vf : Value, W.heap[b]? = some (.cells #[vf] T (0, 0)) ∧ vf.ownBlock ≠ some Bx
theorem offBox_own (B b : Nat) (T : TypeId) : OwnFrom B (OffBox b T) := by
  rintro Bx W W' row ⟨hne, vf, h1, h2⟩ hg hr
  refine ⟨hne, vf, (hg.block b (Array.getElem?_eq_some_iff.1 h1).1 ?_).trans h1, h2⟩
  intro e
  obtain ⟨_, o, h3, h4⟩ := hr b e.symm
  rw [h1] at h3; cases h3; cases h4
open Classical in
noncomputable def fndL (g : G) (m : Int × Int → Option Nat) (n : Nat) (l : List (Int × Int)) : List (Int × Int) := l.filter fun p => decide (∃ k, k < 4 ∧ tellsP g m p k n)
theorem fndL_all (g : G) (m : Int × Int → Option Nat) (n : Nat) : fndL g m n (unk g.objs.length m) = fnd g m n := rfl
theorem fndL_yes {g : G} {m : Int × Int → Option Nat} {n : Nat} {l : List (Int × Int)} {p : Int × Int} {k : Nat} (hk : k < 4) (h : tellsP g m p k n) : fndL g m n (l ++ [p]) = fndL g m n l ++ [p] := by
  unfold fndL
  rw [List.filter_append, List.filter_cons_of_pos (by simp; exact ⟨k, hk, h⟩)]; rfl
def NoneTo (g : G) (m : Int × Int → Option Nat) (p : Int × Int) (n c : Nat) : Prop := ∀ j, j < c → ¬ tellsP g m p j n
theorem fndL_no {g : G} {m : Int × Int → Option Nat} {n : Nat} {l : List (Int × Int)} {p : Int × Int} (h : NoneTo g m p n 4) : fndL g m n (l ++ [p]) = fndL g m n l := by
  unfold fndL
  rw [List.filter_append, List.filter_cons_of_neg (by simp; exact fun k hk => h k hk)]; simp
theorem NoneTo.succ {g : G} {m : Int × Int → Option Nat} {p : Int × Int} {n c : Nat} (h : NoneTo g m p n c) (hc : ¬ tellsP g m p c n) : NoneTo g m p n (c + 1) := by
  intro j hj
  rcases Nat.lt_or_ge j c with h1 | h1
  · exact h j h1
  · obtain rfl : j = c := by omega
    exact hc
theorem fndL_le (g : G) (m : Int × Int → Option Nat) (n : Nat) (l : List (Int × Int)) : (fndL g m n l).length ≤ l.length := List.length_filter_le _ _

theorem gmap_calm {P : Program} {κ : Type} {M : MapT P κ} {B b n : Nat} {f : κ → Option Value} (h : b < B) : (gmap M b n f).Calm B := by
  intro _ _ _ b' hb
  cases hb
  exact .inl h
theorem getElem_cellsP (l : List (Int × Int)) : ∀ (k : Nat) (x : Int × Int), l[k]? = some x → (l.flatMap cellsP)[k * 2]? = some (.int .i64 x.1) ∧ (l.flatMap cellsP)[k * 2 + 1]? = some (.int .i64 x.2) := by
  induction l with
  | nil => intro k x h; simp at h
  | cons y l ih =>
    intro k x h
    cases k with
    | zero => simp at h; subst h; simp [List.flatMap_cons, cellsP]
    | succ k =>
      have := ih k x (by simpa using h)
      have e1 : (k + 1) * 2 = k * 2 + 2 := by omega
      rw [e1]
      simpa [List.flatMap_cons, cellsP] using this
theorem Mem.pairsShape {B : Nat} {w0 w : World} {L : List Ent} (h : Mem B w0 w L) (k : Nat) {v : Value} {l : List (Int × Int)} (hk : L[k]? = some (rowP v l)) :
    ∃ a cap, v = .slice a l.length cap ∧ (l ≠ [] → ∃ g, a = some ⟨g, 0, none⟩ ∧ g < w.heap.size) := by
  have hr := h.row k hk
  rcases hr.2 with ⟨h1, h0⟩ | ⟨g, cap, cur, rfl, hB, hg, _⟩
  · exact ⟨none, 0, by rw [h1, h0], fun hne => (hne (List.eq_nil_of_length_eq_zero h0)).elim⟩
  · exact ⟨_, _, rfl, fun _ => ⟨g, rfl, (Array.getElem?_eq_some_iff.1 hg).1⟩⟩
theorem Mem.pairsAt {B : Nat} {w0 w : World} {L : List Ent} (h : Mem B w0 w L) (k : Nat) {g cap m : Nat} {l : List (Int × Int)} (hk : L[k]? = some (rowP (.slice (some ⟨g, 0, none⟩) m cap) l)) {j : Nat} {x : Int × Int} (hx : l[j]? = some x) :
    w.cell? ⟨g, j * 2, none⟩ = some (.int .i64 x.1) ∧ w.cell? ⟨g, j * 2 + 1, none⟩ = some (.int .i64 x.2) := by
  obtain ⟨a', cap', hv, _⟩ := h.pairsShape k hk
  cases hv
  have hr : w.ownsRow B 65 2 _ l.length (l.flatMap cellsP) := h.row k hk
  have hj : j < l.length := (List.getElem?_eq_some_iff.1 hx).1
  have hc := getElem_cellsP l j x hx
  exact ⟨(hr.cellAt (j * 2) (by omega)).trans hc.1, (hr.cellAt (j * 2 + 1) (by omega)).trans hc.2⟩
/-- A map with one value at some more keys. -/
def putF (z : Value) (l : List (Int × Int)) (f : Int × Int → Option Value) : Int × Int → Option Value := fun p => if p ∈ l then some z else f p
theorem putF_nil (z : Value) (f : Int × Int → Option Value) : putF z [] f = f := by funext p; simp [putF]
theorem putF_snoc (z : Value) (l : List (Int × Int)) (f : Int × Int → Option Value) (y : Int × Int) : putF z (l ++ [y]) f = fun u => if u = y then some z else putF z l f u := by
  funext p
  unfold putF
  by_cases h1 : p = y
  · subst h1; simp
  · by_cases h2 : p ∈ l
    · rw [if_pos (List.mem_append_left _ h2), if_neg h1, if_pos h2]
    · rw [if_neg (by simp [h1, h2]), if_neg h1, if_neg h2]
theorem putF_all (g : G) (n : Nat) : putF (.int .i64 ((n + 1 : Nat) : Int)) (fnd g (mapAt g n) (n + 1)) (mapF (mapAt g n)) = mapF (mapAt g (n + 1)) := by
  funext p
  unfold putF mapF
  rw [mapAt_next]
  split
  · rfl
  · rfl

set_option maxRecDepth 100000 in
set_option maxHeartbeats 4000000 in
theorem apart_main (g : G) (hG : Good g) (v : Value) (w : World) (hg : IsGraph w v g) :
    CallsIn Fence.wide 10 Try.prog 38 #[v] w fun e w' => ∃ bm cnt m, e = .returned (.map (some bm)) ∧ Apart g m ∧ (∀ p j, m p = some j → j ≤ 576) ∧ Mem w.heap.size w w' [gmap mapPair bm cnt (mapF m)] := by
  have Hg := Lib.hid hg
  obtain ⟨vo, vr, rfl, ho, hr⟩ := hg
  obtain ⟨ao, co, rfl, hlo⟩ := ho.slice
  obtain ⟨ar, cr, rfl, hlr⟩ := hr.slice
  have hn := hG.objs
  clear ho hr
  have hmm := @run_makeMap Try.prog
  refine callsIn_of_wp_marks Try.func38 rfl trivial ?_ rfl
  simp only [Try.ntmps38, List.size_toArray, List.length_cons, List.length_nil, Nat.reduceAdd, Nat.reduceSub, Array.replicate_succ, Array.replicate_zero, List.push_toArray, List.append_toArray, List.nil_append, List.cons_append]
  have hM0 := (((((Mem.start w).alloc #[.slice ao g.objs.length co, .slice ar g.roots.length cr] 25).newMapAt mapPair (w.heap.size + 1) (by simp)).allocAt (w.heap.size + 2) (by simp) #[.map (some (w.heap.size + 1))] 61)).allocAt (w.heap.size + 3) (by simp) #[.int .i64 1] 3
  have HM0 := Lib.hid hM0
  clear hM0
  gi_wp2
  refine loop_marks [5, 6, 10, 13, 14, 15, 31, 32, 33, 34, 35, 36, 37, 38, 39, 40, 41, 42, 43, 44, 45] (fun m u Ds W => ∃ (n Bn cnt : Nat), m = (unk g.objs.length (mapAt g n)).length ∧ n + m ≤ g.objs.length * g.objs.length ∧ cnt + m = g.objs.length * g.objs.length ∧ u 5 = .pointer (some ⟨Bn, 0, none⟩) ∧
      Mem w.heap.size w W ([ebox Bn #[.int .i64 ((n + 1 : Nat) : Int)] 3, ebox (w.heap.size + 2) #[.map (some (w.heap.size + 1))] 61, gmap mapPair (w.heap.size + 1) cnt (mapF (mapAt g n)), ebox w.heap.size #[.slice ao g.objs.length co, .slice ar g.roots.length cr] 25] ++ Ds.map edef))
      (Ds0 := []) rfl (g.objs.length * g.objs.length) ⟨0, w.heap.size + 3, 0, ?_, by simp, by simp, by simp, ?_⟩ ?_
  · rw [← length_pairsN]; unfold unk; rw [List.filter_eq_self.2]; intro p _; rfl
  · have hM1 := HM0.out
    exact hM1.cast (by simp; rfl)
  rintro m u Ds W ⟨n, Bn, cnt, rfl, hnm, hcm, hu, hM⟩
  simp only [setAll, List.foldl_cons, List.foldl_nil, List.setIfInBounds_toArray, List.set_cons_succ, List.set_cons_zero, hu]
  have hnn : g.objs.length * g.objs.length ≤ 576 := Nat.mul_le_mul hn hn
  have pn : W.cell? ⟨Bn, 0, none⟩ = some (.int .i64 ((n + 1 : Nat) : Int)) := by have := hM.cell 0 rfl 0; simpa using this
  have pm : W.cell? ⟨w.heap.size + 1 + 1, 0, none⟩ = some (.map (some (w.heap.size + 1))) := by have := hM.cell 1 rfl 0; simpa using this
  have pg : W.cell? ⟨w.heap.size, 0, none⟩ = some (.slice ao g.objs.length co) := by have := hM.cell 3 rfl 0; simpa using this
  have pr : W.cell? ⟨w.heap.size, 1, none⟩ = some (.slice ar g.roots.length cr) := by have := hM.cell 3 rfl 1; simpa using this
  have zn : Bn < W.heap.size := (hM.box 0 rfl).2.1
  have zm : w.heap.size + 1 + 1 < W.heap.size := (hM.box 1 rfl).2.1
  have zg : w.heap.size < W.heap.size := (hM.box 3 rfl).2.1
  have hmap : (gmap mapPair (w.heap.size + 1) cnt (mapF (mapAt g n))).ok 0 W := by
    have := hM.get 2 rfl
    exact ⟨fun b e => ⟨Nat.zero_le _, (this.1 b e).2⟩, this.2⟩
  have HgW : Hid (IsGraph W (.agg #[.slice ao g.objs.length co, .slice ar g.roots.length cr]) g) := Lib.hid (Hg.out.later hM.below)
  have Hmap := Lib.hid hmap
  have HM := Lib.hid hM
  clear hmap hM hlo hlr HM0 hu
  obtain ⟨mm, hmm2⟩ : ∃ mm, mm = mapAt g n := ⟨_, rfl⟩
  rw [← hmm2] at Hmap
  have Hmm := Lib.hid hmm2
  clear hmm2
  have hMs : Mem W.heap.size W (W.alloc (.cells #[.slice none 0 0] 102)) [ebox W.heap.size #[.slice none 0 0] 102, rowP (.slice none 0 0) (fndL g mm (n + 1) [])] := by
    have := (((Mem.start W).nil 65 2).alloc #[.slice none 0 0] 102)
    exact this.cast (by simp [rowP, fndL])
  gi_wp2
  refine range_box2 (by omega) (gf := 63) (lb := #[.pointer (some ⟨w.heap.size, 0, none⟩), .pointer (some ⟨w.heap.size + 1 + 1, 0, none⟩)]) rfl (enters_of Try.func63 (by kernel_rfl) rfl)
    (all_stops _ (by omega) w.heap.size (w.heap.size + 1 + 1) (w.heap.size + 1) cnt ao co g.objs.length hn mm W pg zg pm zm Hmap.out _ hMs.below) hMs.base
    (fun pre Wx => ∃ vf, Mem W.heap.size W Wx [ebox W.heap.size #[vf] 102, rowP vf (fndL g mm (n + 1) (pre.map (·.1)))]) (fun _ _ _ => False) (OffBox W.heap.size 102)
    (ownFrom_ex fun vf => ownFrom_mem _ hMs.base (fun _ => calm_cons (ebox_calm _ _ _ _) (calm_cons (rowP_calm _ _ _) (calm_nil _)))) (fun _ => ownFrom_false _) (offBox_own _ _ _) ⟨_, hMs⟩ 7 65 (fun x => #[.int .i64 x.1.1, .int .i64 x.1.2]) ?off ?assign ?body ?done ?stop
  case off =>
    rintro pre Wx o ⟨vf, hMx⟩ hz
    refine ⟨by simp at hz; omega, vf, ?_, ?_⟩
    · have h2 := hMx.box 0 rfl
      rw [heap_alloc_old _ _ h2.2.1]; exact h2.2.2
    · intro e
      have := (hMx.lt (x := rowP vf (fndL g mm (n + 1) (pre.map (·.1)))) (by simp) _ e).2
      omega
  case assign =>
    intro l x W K hK
    simp only [laid]
    unfold pairV
    gi_wp2
    exact hK
  case stop => rintro D c pre W hD hpre hf hK; exact hf.elim
  case body =>
    rintro l pre ⟨⟨xa, xb⟩, hx⟩ W1 Bx hBx hBx2 hcell ⟨hne, vf0, hvf, hoff⟩ hsz ⟨vf, hM1⟩ hlen
    obtain rfl : vf0 = vf := by
      have h2 := (hM1.box 0 rfl).2.2
      rw [hvf] at h2; simpa using h2
    have hin := (mem_unk.1 hx).1
    obtain ⟨i, rfl⟩ : ∃ i : Nat, xa = (i : Int) := ⟨xa.toNat, by have := hin.1.1; simp only at this; omega⟩
    obtain ⟨j, rfl⟩ : ∃ j : Nat, xb = (j : Int) := ⟨xb.toNat, by have := hin.2.1; simp only at this; omega⟩
    have hi : i < g.objs.length := by have := hin.1.2; simp only at this; omega
    have hj : j < g.objs.length := by have := hin.2.2; simp only at this; omega
    have hpl : (fndL g mm (n + 1) (pre.map (·.1))).length ≤ 576 := by
      have h1 := fndL_le g mm (n + 1) (pre.map (·.1))
      have h2 := unk_le g mm
      rw [List.length_map] at h1; omega
    have hM2 : Mem W.heap.size W W1 [ebox Bx #[.int .i64 (i : Int), .int .i64 (j : Int)] 65, ebox W.heap.size #[vf0] 102, rowP vf0 (fndL g mm (n + 1) (pre.map (·.1)))] := by
      refine hM1.cons _ ⟨?_, hcell⟩ ?_
      · intro b e; cases e; simp at hBx; exact ⟨by omega, hBx2⟩
      · intro y hy b e e'
        cases e
        rcases List.mem_cons.1 hy with rfl | hy
        · cases e'; exact hne rfl
        · obtain rfl := List.mem_singleton.1 hy
          exact hoff e'
    obtain ⟨pl, hpl2⟩ : ∃ pl : List (Int × Int), pre.map (·.1) = pl := ⟨_, rfl⟩
    rw [hpl2] at hM2 hpl
    have Hpl2 := Lib.hid hpl2
    obtain ⟨fl, hfl⟩ : ∃ fl, fndL g mm (n + 1) pl = fl := ⟨_, rfl⟩
    rw [hfl] at hM2 hpl
    have Hfl := Lib.hid hfl
    have Hpl := Lib.hid hpl
    have HM1 := Lib.hid hM1
    clear hvf hoff hM1 hcell hin hlen hpl2 hfl hpl
    simp only [laid]
    unfold pairV
    gi_wp2
    gi_loopw [17] (fun iv wr => ∃ c : Nat, c ≤ 4 ∧ iv = .int .i64 c ∧ NoneTo g mm ((i : Int), (j : Int)) (n + 1) c ∧ Mem W.heap.size W wr [ebox Bx #[.int .i64 (i : Int), .int .i64 (j : Int)] 65, ebox W.heap.size #[vf0] 102, rowP vf0 fl] ∧ KeepsOthers W1 wr)
      (fun iv _ => 4 - (intOf iv).toNat)
    case atStart => exact ⟨0, Nat.zero_le _, rfl, fun _ h => absurd h (Nat.not_lt_zero _), hM2, KeepsOthers.refl _⟩
    case round =>
      obtain ⟨c, hc, rfl, hno, hM3, hko⟩ := hrel
      have Hno := Lib.hid hno
      clear hno
      by_cases hlt : c < 4
      · have q0 : wr.cell? ⟨w.heap.size, 0, none⟩ = some (.slice ao g.objs.length co) := (hM3.below.cell (p := ⟨_, _, none⟩) zg).trans pg
        have q1 : wr.cell? ⟨w.heap.size, 1, none⟩ = some (.slice ar g.roots.length cr) := (hM3.below.cell (p := ⟨_, _, none⟩) zg).trans pr
        have q2 : wr.cell? ⟨w.heap.size + 1 + 1, 0, none⟩ = some (.map (some (w.heap.size + 1))) := (hM3.below.cell (p := ⟨_, _, none⟩) zm).trans pm
        have q3 : wr.cell? ⟨Bn, 0, none⟩ = some (.int .i64 ((n + 1 : Nat) : Int)) := (hM3.below.cell (p := ⟨_, _, none⟩) zn).trans pn
        obtain ⟨q4, q5⟩ := hM3.cells2 0 rfl
        gi_wp2_with fail
        refine ⟨trivial, (callsIn_round (stells_any g _ _ cnt mm i j c (n + 1) wr (HgW.out.later hM3.below) (gmap_later Hmap.out hM3.below) hi hj (by omega) (by omega))).mono ?_⟩
        rintro e w2 ⟨t, rfl, ht, hb2⟩
        have hM4 := hM3.call hb2
        have hko2 := hko.trans (keepsOthers_below hb2)
        cases t with
        | true =>
          have hT := ht.1 rfl
          have Hst : Hid (fndL g mm (n + 1) (pre.map (·.1) ++ [((i : Int), (j : Int))]) = fl ++ [((i : Int), (j : Int))]) := Lib.hid (by rw [Hpl2.out, fndL_yes hlt hT, Hfl.out])
          clear ht hT
          obtain ⟨av, nv, cv, rfl⟩ := hM4.isSlice 2 rfl
          have q6 : w2.cell? ⟨W.heap.size, 0, none⟩ = some (.slice av nv cv) := by have := hM4.cell 1 rfl 0; simpa using this
          obtain ⟨q7, q8⟩ := hM4.cells2 0 rfl
          have hf := Hpl.out
          have zf : W.heap.size < w2.heap.size := (hM4.box 1 rfl).2.1
          gi_wp2_with (gi_at_builtin; refine list_in (freed_round _) rfl (by intro c h; cases h) ?_; refine Mem.wp_app1 elemPairs rfl (.tmp 26) (.tmp 28) rfl hM4 2 rfl rfl _ #[.int .i64 (i : Int), .int .i64 (j : Int)] _ _ rfl (by simp) rfl rfl (by decide) (by omega) ?_; intro ad cp w3 hM5 hs3 hk3 ha3; refine ⟨rfl, ?_⟩; have u0 : w3.frozen? ⟨W.heap.size, 0, none⟩ = false := hM5.free 1 rfl 0; have u1 : w3.cell? ⟨W.heap.size, 0, none⟩ = some (.slice av nv cv) := (by have := hM5.cell 1 rfl 0; simpa using this))
          have hko3 : KeepsOthers w2 w3 := ⟨by omega, hM4.keeps 2 rfl (by omega) hk3⟩
          have hM6 := hM5.setBox 1 rfl 0 (.slice ad (fl.length + 1) cp)
          refine ⟨((hko2.trans hko3).trans (KeepsOthers.setCell _ _ _)).from _, below_between HM1.out.below hM6.below (by simp; exact (hko2.trans hko3).size), .slice ad (fl.length + 1) cp, ?_⟩
          rw [List.map_append]
          simp only [List.map_cons, List.map_nil]
          rw [Hst.out]
          exact (hM6.drop (List.sublist_cons_self _ _)).cast (by simp [rowP, cellsP])
        | false =>
          have Hno2 := Lib.hid (Hno.out.succ (fun h => by have := ht.2 h; cases this))
          clear ht
          gi_wp2
          go_roundw
          case rel => exact ⟨c + 1, by omega, by go_num, Hno2.out, hM4, hko2⟩
          case measure => simp [intOf]; omega
      · obtain rfl : c = 4 := by omega
        have Hst : Hid (fndL g mm (n + 1) (pre.map (·.1) ++ [((i : Int), (j : Int))]) = fl) := Lib.hid (by rw [Hpl2.out, fndL_no Hno.out, Hfl.out])
        gi_wp2
        refine ⟨hko.from _, below_between HM1.out.below hM3.below hko.size, vf0, ?_⟩
        rw [List.map_append]
        simp only [List.map_cons, List.map_nil]
        rw [Hst.out]
        exact hM3.drop (List.sublist_cons_self _ _)
  case done =>
    rintro D1 xs W2 hD1 hxs ⟨vf, hM1⟩ hK1
    rw [hxs, fndL_all] at hM1
    have hM2 := HM.out.callMem hM1
    have hwD : W.heap.size < D1 := by have h1 := hD1; simp at h1; omega
    have hM3 := (hM2.addDef' (D := D1) (by omega) hK1 (calm_append (A := [_, _, _, _, _, _]) (by
      intro x hx
      rcases List.mem_cons.1 hx with rfl | hx
      · exact ebox_calm _ _ _ _
      rcases List.mem_cons.1 hx with rfl | hx
      · exact rowP_calm _ _ _
      rcases List.mem_cons.1 hx with rfl | hx
      · exact ebox_calm _ _ _ _
      rcases List.mem_cons.1 hx with rfl | hx
      · exact ebox_calm _ _ _ _
      rcases List.mem_cons.1 hx with rfl | hx
      · exact gmap_calm (by omega)
      rcases List.mem_cons.1 hx with rfl | hx
      · exact ebox_calm _ _ _ _
      · cases hx) (calm_defs _ (fun D hD => by have := HM.out.defs_lt (Ds := Ds) (fun D hD => List.mem_append_right _ (List.mem_map.2 ⟨D, hD, rfl⟩)) D hD; omega)))).tailDef (A := [_, _, _, _, _, _])
    clear hM2 hM1 hxs hK1
    obtain ⟨F, hF⟩ : ∃ F, fnd g mm (n + 1) = F := ⟨_, rfl⟩
    rw [hF] at hM3
    have HF := Lib.hid hF
    clear hF
    obtain ⟨av, cv, rfl, hne⟩ := hM3.pairsShape 1 rfl
    have Hne := Lib.hid hne
    clear hne
    have q6 : W2.cell? ⟨W.heap.size, 0, none⟩ = some (.slice av F.length cv) := by have := hM3.cell 0 rfl 0; simpa using this
    have q2 : W2.cell? ⟨w.heap.size + 1 + 1, 0, none⟩ = some (.map (some (w.heap.size + 1))) := by have := hM3.cell 3 rfl 0; simpa using this
    have q3 : W2.cell? ⟨Bn, 0, none⟩ = some (.int .i64 ((n + 1 : Nat) : Int)) := by have := hM3.cell 2 rfl 0; simpa using this
    have HM3 := Lib.hid hM3
    have hF576 : F.length ≤ 576 := by
      have h1 := fndL_le g mm (n + 1) (unk g.objs.length mm)
      rw [fndL_all, HF.out] at h1
      have := unk_le g mm
      omega
    clear hM3
    by_cases hF0 : F = []
    · subst hF0
      have HA : Hid (Apart g (mapAt g n)) := Lib.hid (apart_none (by rw [← Hmm.out]; exact HF.out))
      have HB : Hid (∀ p j, mapAt g n p = some j → j ≤ 576) := Lib.hid (fun p j h => by obtain ⟨_, _, h2, _⟩ := mapAt_at h; omega)
      gi_wp2
      refine leaves_marks (v := .map (some (w.heap.size + 1))) (D1 :: Ds) _ (HM3.out.perm List.perm_append_comm) ?_
      intro W' hM4
      exact ⟨by simp [results, Try.results38, go_sem], _, cnt, _, rfl, HA.out, HB.out, hM4.pick0 [4] (by decide) rfl⟩
    · have hF1 : ¬ F.length = 0 := fun h => hF0 (List.eq_nil_of_length_eq_zero h)
      have hz : ((F.length : Int) == 0) = false := by simp; omega
      obtain ⟨gv, rfl, hgv⟩ := Hne.out hF0
      have hFin : ∀ y ∈ F, inO g y := by
        intro y hy
        rw [← HF.out] at hy
        exact (mem_fnd.1 hy).1.1
      have HFin := Lib.hid hFin
      clear hFin
      gi_wp2
      gi_loopw [37] (fun iv wr => ∃ k : Nat, k ≤ F.length ∧ iv = .int .i64 k ∧ Mem w.heap.size w wr ([ebox W.heap.size #[.slice (some ⟨gv, 0, none⟩) F.length cv] 102, rowP (.slice (some ⟨gv, 0, none⟩) F.length cv) F, ebox Bn #[.int .i64 ((n + 1 : Nat) : Int)] 3, ebox (w.heap.size + 2) #[.map (some (w.heap.size + 1))] 61,
          gmap mapPair (w.heap.size + 1) (cnt + k) (putF (.int .i64 ((n + 1 : Nat) : Int)) (F.take k) (mapF (mapAt g n))), ebox w.heap.size #[.slice ao g.objs.length co, .slice ar g.roots.length cr] 25] ++ (D1 :: Ds).map edef))
        (fun iv _ => F.length - (intOf iv).toNat)
      case atStart => exact ⟨0, Nat.zero_le _, rfl, HM3.out.cast (by rw [List.take_zero, putF_nil]; rfl)⟩
      case round =>
        obtain ⟨k, hk, rfl, hM4⟩ := hrel
        by_cases hlt : k < F.length
        · obtain ⟨y, hy⟩ := get_some _ _ hlt
          obtain ⟨c1, c2⟩ := hM4.pairsAt 1 rfl hy
          have hyin := HFin.out y (List.mem_of_getElem? hy)
          have HS := Lib.hid (take_succ_some _ _ _ hy)
          have Hin := Lib.hid hyin
          have q0 : wr.cell? ⟨w.heap.size + 1 + 1, 0, none⟩ = some (.map (some (w.heap.size + 1))) := by have := hM4.cell 3 rfl 0; simpa using this
          have q1 : wr.cell? ⟨Bn, 0, none⟩ = some (.int .i64 ((n + 1 : Nat) : Int)) := by have := hM4.cell 2 rfl 0; simpa using this
          have z0 : w.heap.size + 1 + 1 < wr.heap.size := (hM4.box 3 rfl).2.1
          have z1 : Bn < wr.heap.size := (hM4.box 2 rfl).2.1
          have z2 : gv < wr.heap.size := by
            obtain ⟨a, cap, he, hne⟩ := hM4.pairsShape 1 rfl
            obtain ⟨g', e, h2⟩ := hne hF0
            cases he
            cases e
            exact h2
          have HM4 := Lib.hid (hM4.alloc_ (.cells #[.int .i64 y.1, .int .i64 y.2] 65))
          clear hy hyin hM4
          gi_wp2_with (refine list_in freed_wide rfl (by intro c h; cases h) ?_; at_mapUpdate; refine Mem.wp_putG (M := mapPair) rfl _ _ _ rfl HM4.out 4 rfl (by omega) rfl y (.int .i64 ((n + 1 : Nat) : Int)) rfl rfl ?_ ?_)
          · have h1 := Hin.out.1
            have h2 := Hin.out.2
            exact ⟨⟨by omega, by omega⟩, by omega, by omega⟩
          · intro w4 hM5 hs5
            refine ⟨rfl, ?_⟩
            gi_wp2
            go_roundw
            case rel => exact ⟨k + 1, by omega, by go_num, hM5.cast (by rw [HS.out, putF_snoc]; rfl)⟩
            case measure => simp [intOf]; omega
        · obtain rfl : k = F.length := by omega
          have hpf : putF (.int .i64 ((n + 1 : Nat) : Int)) F (mapF (mapAt g n)) = mapF (mapAt g (n + 1)) := by rw [← putF_all, ← Hmm.out, HF.out]
          rw [List.take_length, hpf] at hM4
          clear hpf
          have q1 : wr.cell? ⟨Bn, 0, none⟩ = some (.int .i64 ((n + 1 : Nat) : Int)) := by have := hM4.cell 2 rfl 0; simpa using this
          have z1 : Bn < wr.heap.size := (hM4.box 2 rfl).2.1
          have hne : fnd g (mapAt g n) (n + 1) ≠ [] := by rw [← Hmm.out, HF.out]; exact hF0
          have hlt2 := unk_lt hne
          have hun := unk_next (g := g) (n := n)
          have HM4 := Lib.hid hM4
          clear hM4 hne
          have hFl : F.length = (fnd g (mapAt g n) (n + 1)).length := by rw [← Hmm.out, HF.out]
          have HFl := Lib.hid hFl
          clear hFl
          gi_wp2
          refine ⟨(unk g.objs.length (mapAt g (n + 1))).length, D1 :: Ds, hlt2, rfl, rfl, n + 1, wr.heap.size, cnt + F.length, rfl, by omega, by have := HFl.out; omega, rfl, ?_⟩
          have hM5 := HM4.out.alloc #[.int .i64 ((n + 1 + 1 : Nat) : Int)] 3
          exact Mem.pick (A := [_, _, _, _, _, _, _]) (T := (D1 :: Ds).map edef) (A' := [_, _, _, _]) hM5 [0, 4, 5, 6] (by decide) rfl

/-- share.apart. -/
theorem apart_any (g : G) (hG : Good g) (v : Value) (w : World) (hg : IsGraph w v g) :
    Calls Try.prog 38 #[v] w fun e w' => ∃ bm cnt m, e = .returned (.map (some bm)) ∧ Apart g m ∧ (∀ p j, m p = some j → j ≤ 576) ∧ Mem w.heap.size w w' [gmap mapPair bm cnt (mapF m)] := callsIn_wide.1 (apart_main g hG v w hg)
end Go.Proofs.Ytdmgpiimacnapaa
