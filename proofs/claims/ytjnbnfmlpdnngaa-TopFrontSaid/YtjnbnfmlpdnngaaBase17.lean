/- Texts Cmr Srt Rnc Rnd in one. -/
import Derived.Test.YtjnbnfmlpdnngaaBase1
import Derived.Lib.Hide
import Derived.IntWalk
import Derived.Test.YtjnbnfmlpdnngaaSf
import Derived.Test.YtjnbnfmlpdnngaaMq
import Derived.Sort.Grow
import Derived.Sort.OwnSortedInts
import Derived.Test.YtjnbnfmlpdnngaaBase16
import Derived.Test.YtjnbnfmlpdnngaaQ4
import Derived.Test.YtjnbnfmlpdnngaaMz
import Derived.BigQuiet
import Derived.Deep.CutBlock
/- cmp.Compare at ints, walked. -/
namespace Go.Proofs.Ytjnbnfmlpdnngaa
open Go.RowKit
def cmp3 (x y : Int) : Int := if x < y then -1 else if y < x then 1 else 0
theorem cmp3_lt (x y : Int) : cmp3 x y < 0 ↔ x < y := by unfold cmp3; split <;> (try split) <;> omega
theorem cmp3_eq (x y : Int) : cmp3 x y = 0 ↔ x = y := by unfold cmp3; split <;> (try split) <;> omega
theorem cmp3_ok (x y : Int) : i64ok (cmp3 x y) := by unfold cmp3 i64ok; split <;> (try split) <;> omega
set_option maxHeartbeats 400000 in
theorem compare_any (x y : Int) (w : World) : Calls Try.prog 88 #[.int .i64 x, .int .i64 y] w fun e w' => e = .returned (.int .i64 (cmp3 x y)) ∧ w = w' := by
  by_cases h1 : x < y
  · have e : cmp3 x y = -1 := by unfold cmp3; rw [if_pos h1]
    have E := Lib.hid e
    clear e
    go_enter Try.func88, Try.ntmps88
    go_wp2
    go_ret
    exact ⟨by rw [E.out]; rfl, rfl⟩
  · by_cases h2 : y < x
    · have e : cmp3 x y = 1 := by unfold cmp3; rw [if_neg h1, if_pos h2]
      have E := Lib.hid e
      clear e
      go_enter Try.func88, Try.ntmps88
      go_wp2
      go_ret
      exact ⟨by rw [E.out]; rfl, rfl⟩
    · have e : cmp3 x y = 0 := by unfold cmp3; rw [if_neg h1, if_neg h2]
      have E := Lib.hid e
      clear e
      have h3 : ¬ x > y := h2
      go_enter Try.func88, Try.ntmps88
      go_wp2
      go_ret
      exact ⟨by rw [E.out]; rfl, rfl⟩
end Go.Proofs.Ytjnbnfmlpdnngaa

/- slices.SortFunc on a row of ints of the call's own, with any comparator that reads. -/
namespace Go.Proofs.Ytjnbnfmlpdnngaa
open Go.RowKit Go.Shelf Go.Sort Go.Maps

def clip (x : Int) : Int := if -9223372036854775808 ≤ x ∧ x ≤ 9223372036854775807 then x else 0
theorem clip_ok (x : Int) : i64ok (clip x) := by unfold clip i64ok; split <;> omega
theorem clip_id {x : Int} (h : i64ok x) : clip x = x := by unfold clip; unfold i64ok at h; rw [if_pos h]
def encC (x : Int) : Value := .int .i64 (clip x)
theorem holdsC {w : World} {g : Nat} {l : List Int} (h : Holds (Value.int .i64) w g 0 l.toArray) (hx : ∀ x ∈ l, i64ok x) : Holds encC w g 0 l.toArray := by
  intro j hj
  obtain ⟨h1, h2⟩ := h j hj
  refine ⟨?_, h2⟩
  rw [h1]
  have hj' : j < l.length := by simpa using hj
  have : l.toArray[j]! = l[j] := by simp [hj']
  rw [this]
  unfold encC
  rw [clip_id (hx _ (List.getElem_mem hj'))]
theorem putC_eq {w : World} {g n : Nat} {os : Array Obj} {d : List Int} (hx : ∀ x ∈ d, i64ok x) : sortWorld encC w g 0 n d.toArray os = grow (putRow (Value.int .i64) (Sort.ahead w n) g 0 d.toArray) os := by
  unfold sortWorld putRow
  congr 2
  funext cur
  unfold putCells
  congr 1
  funext i v
  by_cases hi : 0 ≤ i ∧ i < 0 + d.toArray.size
  · rw [if_pos hi, if_pos hi]
    have hi' : i < d.length := by simpa using hi.2
    have : d.toArray[i - 0]! = d[i] := by simp [hi']
    rw [this]
    unfold encC
    rw [clip_id (hx _ (List.getElem_mem hi'))]
  · rw [if_neg hi, if_neg hi]
/-- A map in a world that has its block as it was. -/
theorem gmap_move {P : Program} {κ : Type} {M : MapT P κ} {B : Nat} {w X : World} {b n : Nat} {f : κ → Option Value} (h : (gmap M b n f).ok B w) (hX : X.heap[b]? = w.heap[b]?) : (gmap M b n f).ok B X := by
  obtain ⟨h1, wv, D, h2, h3⟩ := h
  obtain ⟨h4, h5⟩ := h1 b rfl
  refine ⟨fun b' e => ?_, wv, D, h2.trans ?_, h3⟩
  · cases e
    have h6 : w.heap[b]? = some (w.heap[b]'h5) := Array.getElem?_eq_getElem h5
    rw [h6] at hX
    exact ⟨h4, (Array.getElem?_eq_some_iff.1 hX).1⟩
  · exact hX.symm
theorem swoC {cf : Int → Int → Int} (h : SWO (ltOf cf)) : SWO (ltOf fun x y => cf (clip x) (clip y)) :=
  ⟨fun _ => h.irrefl _, fun _ _ _ => h.trans _ _ _, fun _ _ _ => h.ntrans _ _ _⟩
/-- A world as it is amid a sort: all but the row's block is as it was. -/
def SortAt (g : Nat) (w X : World) : Prop := w.heap.size ≤ X.heap.size ∧ ∀ b, b ≠ g → b < w.heap.size → X.heap[b]? = w.heap[b]?
theorem sortAt_of (w : World) (g m : Nat) (dk : Array Int) (os : Array Obj) : SortAt g w (sortWorld encC w g 0 m dk os) := by
  refine ⟨?_, fun b hne hb => ?_⟩
  · unfold sortWorld; simp [putRow, mapBlock, Sort.ahead, grow]
  · unfold sortWorld
    rw [heap_grow_old _ _ (by simpa [putRow, mapBlock, Sort.ahead] using hb)]
    simp only [putRow, mapBlock, Sort.ahead, Array.getElem?_modify]
    rw [if_neg (fun e => hne (Eq.symm e))]
theorem sortf_own (B : Nat) (w0 w : World) (L : List Ent) (hM : Mem B w0 w L) (k : Nat) (e : TypeId) (v : Value) (l : List Int) (hk : L[k]? = some (rowI e v l)) (hl : l.length ≤ 1000000) (hx : ∀ x ∈ l, i64ok x)
    (f : FuncId) (cb : Array Value) (cf : Int → Int → Int) (hO : SWO (ltOf cf)) (eg : ∀ args w, (callFunc f args).run Try.prog w = .ok (.enter f args) w)
    (hcmp : ∀ g cap, v = .slice (some ⟨g, 0, none⟩) l.length cap → ∀ X, SortAt g w X → ∀ x y, i64ok x → i64ok y → Calls Try.prog f (#[.int .i64 x, .int .i64 y] ++ cb) X fun e w' => e = .returned (.int .i64 (cf x y)) ∧ ∃ q os', w' = grow (X.drewN q) os') :
    Calls Try.prog 86 #[v, .func (.func f) #[] cb] w fun e' w' => e' = .returned (.tuple #[]) ∧ ∃ d : List Int, d.Perm l ∧ d.Pairwise (fun x y => ¬ cf y x < 0) ∧ Mem B w0 w' (L.set k (rowI e v d)) := by
  have hown := hM.ownI k hk
  have hself : L.set k (rowI e v l) = L := by
    obtain ⟨h1, h2⟩ := List.getElem?_eq_some_iff.1 hk
    rw [← h2, List.set_getElem_self]
  have hnone : ∀ p cap, v = .slice p 0 cap → l = [] → Calls Try.prog 86 #[v, .func (.func f) #[] cb] w fun e' w' => e' = .returned (.tuple #[]) ∧ ∃ d : List Int, d.Perm l ∧ d.Pairwise (fun x y => ¬ cf y x < 0) ∧ Mem B w0 w' (L.set k (rowI e v d)) := by
    rintro p cap rfl rfl
    have h := AnyF.slices_SortFunc_none (P := Try.prog) (ρ := Try.laySortFunc_ren) { Try.laySortFunc with } p cap (.func (.func f) #[] cb) w
    refine h.mono ?_
    rintro e w' ⟨rfl, rfl⟩
    refine ⟨rfl, [], .nil, List.Pairwise.nil, ?_⟩
    rw [hself]; exact hM
  rcases hown.2 with ⟨rfl, h0⟩ | ⟨g, cap, cur, rfl, hB, hg, hn, hcap, hcs, htk⟩
  · exact hnone none 0 rfl (List.eq_nil_of_length_eq_zero h0)
  · by_cases h0 : l = []
    · subst h0
      exact hnone _ cap rfl rfl
    · rw [Nat.mul_one] at htk
      have hH := holdsC (holds_of_blockI hg htk) hx
      have h := Any.slices_SortFunc Try.laySortFunc encC (fun _ => rfl) (fun x y => cf (clip x) (clip y)) (swoC hO) f cb g 0 cap l.toArray w eg (fun m os dk _ x y => hcmp g cap rfl _ (sortAt_of w g m dk os) (clip x) (clip y) (clip_ok x) (clip_ok y)) hH (Array.getElem?_eq_some_iff.1 hg).1 (by simp; omega)
      refine h.mono ?_
      rintro e' w' ⟨rfl, d', n, os, hp, hsd, rfl⟩
      obtain ⟨d, rfl⟩ : ∃ d : List Int, d' = d.toArray := ⟨d'.toList, by simp⟩
      have hsz : d.length = l.length := by simpa using hp.1
      have hperm : d.Perm l := by
        have := hp.2.2
        have e1 : (d.toArray.extract 0 l.toArray.size).toList = d := by simp [← hsz]
        have e2 : (l.toArray.extract 0 l.toArray.size).toList = l := by simp
        rwa [e1, e2] at this
      have hdx : ∀ x ∈ d, i64ok x := fun x h => hx x (hperm.mem_iff.1 h)
      rw [putC_eq hdx]
      refine ⟨rfl, d, hperm, ?_, ?_⟩
      · rw [List.pairwise_iff_getElem]
        intro a b ha hb hab
        have h3 := hsd a b (Nat.zero_le _) hab (by simpa [hsz] using hb)
        unfold ltOf at h3
        rw [decide_eq_false_iff_not] at h3
        have e1 : d.toArray[a]! = d[a] := by simp [ha]
        have e2 : d.toArray[b]! = d[b] := by simp [hb]
        rw [e1, e2] at h3
        simp only at h3
        rw [clip_id (hdx _ (List.getElem_mem ha)), clip_id (hdx _ (List.getElem_mem hb))] at h3
        exact h3
      · have hs := ownsRow_sortedI (n := n) (os := os) (e := e) (base := B) (ts := d) (ss := l) hsz hB hg hn hcap hcs
        refine hM.turn k hk (grownBy_sortedI _) ?_ (fun b hb => .inl hb)
        have hrow := row_ok.2 hs
        unfold rowI
        rw [hsz]
        exact hrow
end Go.Proofs.Ytjnbnfmlpdnngaa

/- A memory with so many words: what it holds; size, rows by place, walked. -/
namespace Go.Proofs.Ytjnbnfmlpdnngaa
open Go.RowKit Go.Shelf Go.Sort

/-- Where objects stand, as the map tells. -/
def atF (os : Os) (a : List Int) : Int → Option Value := fun i => if 0 ≤ i ∧ ((os[i.toNat]?).getD none).isSome = true then some (.int .i64 (cAt a i)) else none
def intO : Option Value → Int
  | some (.int _ n) => n
  | _ => 0
/-- A map of ints. -/
def IsII (f : Int → Option Value) : Prop := ∀ x, f x = none ∨ ∃ n, f x = some (.int .i64 n)
theorem atF_ii (os : Os) (a : List Int) : IsII (atF os a) := fun x => by unfold atF; split; exact .inr ⟨_, rfl⟩; exact .inl rfl
theorem atF_live {os : Os} {a : List Int} {i : Int} (h : Lives os i) : atF os a i = some (.int .i64 (cAt a i)) := by
  unfold atF
  rw [if_pos ⟨h.1, by rw [h.obj]; rfl⟩]
def boxR (bm bx bt : Nat) (vo : Value) (col words times : Int) : Ent := ebox bm #[vo, .pointer (some ⟨bx, 0, none⟩), .map (some bt), .int .i64 col, .int .i64 words, .int .i64 times] 112
/-- The machine's box, the memory's, the objects' row, and where each stands. -/
@[reducible] def rA (bx : Nat) (regs : List V) (mv : Value) (bm bt nt : Nat) (vo : Value) (cs : List (Option Oc)) (f : Int → Option Value) (col words times : Int) : List Ent :=
  [mbox bx regs mv, boxR bm bx bt vo col words times, rowP vo cs, gmap mapII bt nt f]
section
variable (B : Nat) (w0 : World) (bx : Nat) (regs : List V) (mv : Value) (bm bt nt : Nat) (vo : Value) (cs : List (Option Oc)) (f : Int → Option Value) (col words times : Int) (T : List Ent)
set_option maxRecDepth 100000 in
set_option maxHeartbeats 1000000 in
theorem rsize_any (w : World) (hM : Mem B w0 w (rA bx regs mv bm bt nt vo cs f col words times ++ (objsE cs ++ T))) (i : Int) (hi : Lives (conts cs) i) (h4 : (objAt (conts cs) i).length ≤ 1000) :
    Calls Try.prog 85 #[.pointer (some ⟨bm, 0, none⟩), .int .i64 i] w fun e w' => e = .returned (.int .i64 (szO (conts cs) i)) ∧ w = w' := by
  obtain ⟨o, ho, hl⟩ := lives_cs hi
  have O := oAt_of (A := rA bx regs mv bm bt nt vo cs f col words times) (R := T) (kp := 2) (vo := vo) (cs := cs) rfl
  have m0 : w.cell? ⟨bm, 0, none⟩ = some vo := hM.cell 1 rfl 0
  have mb : bm < w.heap.size := (hM.box 1 rfl).2.1
  obtain ⟨g, cap, rfl, p0, _, pb⟩ := hM.ptrAt O ho
  obtain ⟨q0, qb, a, c2, hv⟩ := hM.objAt O ho
  obtain ⟨j, rfl⟩ : ∃ j : Nat, i = (j : Int) := ⟨i.toNat, by have := hi.1; omega⟩
  rw [Int.toNat_natCast] at ho p0
  have hlt : j < cs.length := (List.getElem?_eq_some_iff.1 ho).1
  have e1 : (j : Int) < (cs.length : Int) := by omega
  rw [hv] at q0
  unfold ptrO at p0
  simp only at p0
  have Hs : Hid (szO (conts cs) (j : Int) = 1 + (o.l.length : Int)) := Lib.hid (by unfold szO; rw [hl])
  rw [← hl] at h4
  clear hM O hi ho hl
  go_enter Try.func85, Try.ntmps85
  go_wp2
  go_ret
  rw [Hs.out]
  exact ⟨by go_num, rfl⟩
end
/-- What a key has, by the map. -/
theorem look_ii {f : Int → Option Value} (hf : IsII f) (x : Int) : (f x).getD (.int .i64 0) = .int .i64 (intO (f x)) := by
  rcases hf x with h | ⟨n, h⟩ <;> rw [h] <;> rfl
set_option maxRecDepth 100000 in
set_option maxHeartbeats 1000000 in
theorem row1_any (B b1 bm bt nt : Nat) (f : Int → Option Value) (hf : IsII f) (X : World) (h1 : X.cell? ⟨b1, 0, none⟩ = some (.pointer (some ⟨bm, 0, none⟩))) (h2 : X.cell? ⟨bm, 2, none⟩ = some (.map (some bt)))
    (hg : (gmap mapII bt nt f).ok B X) (x y : Int) (hx : i64ok x) (hy : i64ok y) :
    Calls Try.prog 87 #[.int .i64 x, .int .i64 y, .pointer (some ⟨b1, 0, none⟩)] X fun e w' => e = .returned (.int .i64 (cmp3 (intO (f x)) (intO (f y)))) ∧ ∃ q, w' = X.drewN q := by
  have l1 := fun q => (gmap_look (gmap_move (X := X.drewN q) hg rfl) hx).1
  have l2 := fun q => (gmap_look (gmap_move (X := X.drewN q) hg rfl) hy).1
  rw [show (f x).getD mapII.zero = .int .i64 (intO (f x)) from look_ii hf x] at l1
  rw [show (f y).getD mapII.zero = .int .i64 (intO (f y)) from look_ii hf y] at l2
  have L1 : ∀ q, (Instr.lookup 109 (.map (some bt)) (.int .i64 x) false).run Try.prog (X.drewN q) = .ok (.int .i64 (intO (f x))) (X.drewN q) := l1
  have L2 : ∀ q, (Instr.lookup 109 (.map (some bt)) (.int .i64 y) false).run Try.prog (X.drewN q) = .ok (.int .i64 (intO (f y))) (X.drewN q) := l2
  obtain ⟨u, hu⟩ : ∃ u, intO (f x) = u := ⟨_, rfl⟩
  obtain ⟨v, hv⟩ : ∃ v, intO (f y) = v := ⟨_, rfl⟩
  rw [hu] at L1 ⊢
  rw [hv] at L2 ⊢
  clear l1 l2 hu hv hg hf
  have HC : Hid (∀ W : World, Calls Try.prog 88 #[.int .i64 u, .int .i64 v] W fun e w' => e = .returned (.int .i64 (cmp3 u v)) ∧ W = w') := Lib.hid fun W => compare_any u v W
  go_enter Try.func87, Try.ntmps87
  go_wp2_with fail
  go_quiet (first | (exact Calls.quiet_of_same ((HC.out _).mono (fun _ _ h => ⟨h.1, h.2.symm⟩))) | fail)
  go_wp2
  go_ret
  exact ⟨rfl, _, rfl⟩
theorem swo3 (F : Int → Int) : SWO (ltOf fun x y => cmp3 (F x) (F y)) := by
  have h : ∀ x y, ltOf (fun x y => cmp3 (F x) (F y)) x y = decide (F x < F y) := fun x y => by unfold ltOf; rw [decide_eq_decide]; exact cmp3_lt _ _
  exact ⟨fun x => by rw [h]; simp, fun x y z h1 h2 => by rw [h] at *; simp at *; omega, fun x y z h1 h2 => by rw [h] at *; simp at *; omega⟩
section
variable (B : Nat) (w0 : World) (bx : Nat) (regs : List V) (mv : Value) (bm bt nt : Nat) (vo : Value) (cs : List (Option Oc)) (f : Int → Option Value) (col words times : Int) (T : List Ent)
set_option maxRecDepth 100000 in
set_option maxHeartbeats 1000000 in
/-- The row by place. -/
theorem rrow_any (w : World) (a : List Int) (hfa : f = atF (conts cs) a) (hP : PlI words (conts cs) a) (hn : cs.length ≤ 1000) (hM : Mem B w0 w (rA bx regs mv bm bt nt vo cs f col words times ++ (objsE cs ++ T))) :
    Calls Try.prog 73 #[.pointer (some ⟨bm, 0, none⟩)] w fun e w' => ∃ u, e = .returned u ∧ Mem B w0 w' (rowI 3 u (rowL (conts cs) a) :: (rA bx regs mv bm bt nt vo cs f col words times ++ (objsE cs ++ T))) := by
  subst hfa
  have hM1 := hM.alloc #[.pointer (some ⟨bm, 0, none⟩)] 108
  obtain ⟨b1, hb1⟩ : ∃ b1, w.heap.size = b1 := ⟨_, rfl⟩
  obtain ⟨W, hW⟩ : ∃ W, w.alloc (.cells #[.pointer (some ⟨bm, 0, none⟩)] 108) = W := ⟨_, rfl⟩
  rw [hW, hb1] at hM1
  have p0 := hM1.cell 0 rfl 0
  have pb := (hM1.box 0 rfl).2.1
  have m0 : W.cell? ⟨bm, 0, none⟩ = some vo := hM1.cell 2 rfl 0
  have mb : bm < W.heap.size := (hM1.box 2 rfl).2.1
  have hM1' : Mem B w0 W (([ebox b1 #[.pointer (some ⟨bm, 0, none⟩)] 108] ++ rA bx regs mv bm bt nt vo cs (atF (conts cs) a) col words times) ++ (objsE cs ++ T)) := hM1
  have hth := othere_any B w0 W _ 3 5 vo cs hM1' (oAt_of (A := [ebox b1 #[.pointer (some ⟨bm, 0, none⟩)] 108] ++ rA bx regs mv bm bt nt vo cs (atF (conts cs) a) col words times) rfl) hn
  have Hth := Lib.hid hth
  have HM1 := Lib.hid hM1
  have HW := Lib.hid hW
  have Hb1 := Lib.hid hb1
  have HP := Lib.hid hP
  have hTl := thereL_len (conts cs) cs.length
  have hTx : ∀ x ∈ thereL (conts cs) cs.length, i64ok x := fun x hx => by
    have := (mem_thereL (by rw [conts_len]; exact Nat.le_refl _)).1 hx
    have h2 := this.1.1
    exact ⟨by omega, by have := this.2; omega⟩
  obtain ⟨TL, hTL⟩ : ∃ TL, thereL (conts cs) cs.length = TL := ⟨_, rfl⟩
  have hTL2 : thereL (conts cs) (conts cs).length = TL := by rw [conts_len]; exact hTL
  rw [hTL] at Hth hTl hTx
  have Hx := Lib.hid hTx
  have HTL := Lib.hid hTL2
  clear hM hM1 hM1' hW hb1 hth hTL hTL2 hTx hP
  go_enter Try.func73, Try.ntmps73
  go_upto_region 1 with (fail)
  rw [HW.out, Hb1.out]
  go_wp2_with fail
  refine Hth.out.mono ?_
  rintro e w1 ⟨vl, rfl, hMt⟩
  obtain ⟨aL, cL, rfl⟩ := hMt.intsSlice 0 rfl
  have hM2 := HM1.out.callMem hMt
  have hs := sortf_own B w0 w1 _ hM2 0 3 _ TL rfl (by omega) Hx.out 87 #[.pointer (some ⟨b1, 0, none⟩)] (fun x y => cmp3 (intO (atF (conts cs) a x)) (intO (atF (conts cs) a y))) (swo3 _)
    (enters_of Try.func87 (by kernel_rfl) rfl) (fun g cap hv X hX x y hx hy => by
      cases hv
      have hr0 := hM2.row 0 rfl
      have hne : ∀ b, b ≠ g → b < w1.heap.size → X.heap[b]? = w1.heap[b]? := hX.2
      have key : ∀ (i : Nat) (x : Ent) (b : Nat), i ≠ 0 → (rowI 3 (.slice (some ⟨g, 0, none⟩) TL.length cL) TL :: ebox b1 #[.pointer (some ⟨bm, 0, none⟩)] 108 :: (rA bx regs mv bm bt nt vo cs (atF (conts cs) a) col words times ++ (objsE cs ++ T)))[i]? = some x → x.blk = some b → b ≠ g := by
        intro i x b hi hx hb e
        subst e
        exact Ent.apart_at hM2.apart hi hx rfl b hb rfl
      have h1 : b1 ≠ g := key 1 _ _ (by decide) rfl rfl
      have h2 : bm ≠ g := key 3 _ _ (by decide) rfl rfl
      have h3 : bt ≠ g := key 5 _ _ (by decide) rfl rfl
      have c1 : w1.cell? ⟨b1, 0, none⟩ = some (.pointer (some ⟨bm, 0, none⟩)) := hM2.cell 1 rfl 0
      have c2 : w1.cell? ⟨bm, 2, none⟩ = some (.map (some bt)) := hM2.cell 3 rfl 2
      have z1 := (hM2.box 1 rfl).2.1
      have z2 := (hM2.box 3 rfl).2.1
      have hgm := hM2.get 5 rfl
      refine (row1_any B b1 bm bt nt (atF (conts cs) a) (atF_ii _ _) X ?_ ?_ (gmap_move hgm (hne _ h3 ?_)) x y hx hy).mono ?_
      · rw [← c1]; simp only [World.cell?, hne b1 h1 z1]
      · rw [← c2]; simp only [World.cell?, hne bm h2 z2]
      · exact (hgm.1 _ rfl).2
      · rintro e w' ⟨rfl, q, rfl⟩
        exact ⟨rfl, q, #[], by rw [grow_empty]⟩)
  have Hs := Lib.hid hs
  clear hs hM2 hMt Hth HM1 m0 mb p0 pb
  go_wp2_with fail
  refine Hs.out.mono ?_
  rintro e w2 ⟨rfl, d, hp, hsd, hM3⟩
  have hd : d = rowL (conts cs) a := by
    refine rowL_unique HP.out (by rw [HTL.out]; exact hp) ?_
    refine List.Pairwise.imp_of_mem ?_ hsd
    intro x y hx hy h
    have hlx : Lives (conts cs) x := ((mem_thereL (Nat.le_refl _)).1 (by rw [HTL.out]; exact hp.mem_iff.1 hx)).1
    have hly : Lives (conts cs) y := ((mem_thereL (Nat.le_refl _)).1 (by rw [HTL.out]; exact hp.mem_iff.1 hy)).1
    have h' : ¬ cmp3 (intO (atF (conts cs) a y)) (intO (atF (conts cs) a x)) < 0 := by simpa using h
    rw [cmp3_lt, atF_live hlx, atF_live hly] at h'
    simp only [intO] at h'
    omega
  subst hd
  have hM4 : Mem B w0 w2 (rowI 3 (.slice aL TL.length cL) (rowL (conts cs) a) :: (rA bx regs mv bm bt nt vo cs (atF (conts cs) a) col words times ++ (objsE cs ++ T))) := hM3.drop (.cons_cons _ (List.sublist_cons_self _ _))
  have HM4 := Lib.hid hM4
  clear hM3 hM4 hp hsd
  go_wp2_with fail
  go_ret
  exact ⟨_, rfl, HM4.out⟩
end
end Go.Proofs.Ytjnbnfmlpdnngaa

/- A memory with so many words: room, down, walked. -/
namespace Go.Proofs.Ytjnbnfmlpdnngaa
open Go.RowKit Go.Shelf

theorem drop_at {l : List Int} {k : Nat} {x : Int} (h : l[k]? = some x) : l.drop k = x :: l.drop (k + 1) := by
  obtain ⟨h1, h2⟩ := List.getElem?_eq_some_iff.1 h
  rw [List.drop_eq_getElem_cons h1, h2]
section
variable (B : Nat) (w0 : World) (bx : Nat) (regs : List V) (mv : Value) (bm bt nt : Nat) (vo : Value) (cs : List (Option Oc)) (col words times : Int) (T : List Ent)
set_option maxRecDepth 100000 in
set_option maxHeartbeats 4000000 in
theorem rroom_any (w : World) (a : List Int) (n : Int) (hn0 : 0 ≤ n ∧ n ≤ 100) (hwd : 0 ≤ words ∧ words ≤ 1000) (hP : PlI words (conts cs) a) (hn : cs.length ≤ 1000) (hM : Mem B w0 w (rA bx regs mv bm bt nt vo cs (atF (conts cs) a) col words times ++ (objsE cs ++ T))) :
    Calls Try.prog 135 #[.pointer (some ⟨bm, 0, none⟩), .int .i64 n] w fun e w' => e = .returned (.int .i64 (roomF (decide (col = 1)) words n (conts cs) a (rowL (conts cs) a) 0)) ∧ Mem B w0 w' (rA bx regs mv bm bt nt vo cs (atF (conts cs) a) col words times ++ (objsE cs ++ T)) := by
  have hrw := rrow_any B w0 bx regs mv bm bt nt vo cs (atF (conts cs) a) col words times T w a rfl hP hn hM
  have hmem : ∀ x ∈ rowL (conts cs) a, Lives (conts cs) x ∧ 0 ≤ cAt a x ∧ cAt a x + szO (conts cs) x ≤ words := fun x hx => by
    have h := mem_rowL.1 hx
    exact ⟨h, hP.lo x h, hP.hi x h⟩
  have hTn : (rowL (conts cs) a).length ≤ 1000 := by
    rw [(rowL_perm (conts cs) a).length_eq]
    have := thereL_len (conts cs) (conts cs).length
    rw [conts_len] at this ⊢
    omega
  obtain ⟨R, hR⟩ : ∃ R, roomF (decide (col = 1)) words n (conts cs) a (rowL (conts cs) a) 0 = R := ⟨_, rfl⟩
  obtain ⟨TL, hTL⟩ : ∃ TL, rowL (conts cs) a = TL := ⟨_, rfl⟩
  rw [hTL] at hrw hmem hR hTn
  rw [hTL, hR]
  have Hrw := Lib.hid hrw
  have Hmem := Lib.hid hmem
  have HR := Lib.hid hR
  have H2 := Lib.hid hn0
  have H3 := Lib.hid hwd
  clear hM hP hrw hTL hR hmem hn0 hwd
  go_enter Try.func135, Try.ntmps135
  go_wp2_with fail
  refine Hrw.out.mono ?_
  rintro e w1 ⟨vl, rfl, hM1⟩
  obtain ⟨aL, cL, rfl⟩ := hM1.intsSlice 0 rfl
  obtain ⟨nL, hnL⟩ : ∃ nL, TL.length = nL := ⟨_, rfl⟩
  rw [hnL] at hM1 hTn ⊢
  have HnL := Lib.hid hnL
  have HM1 := Lib.hid hM1
  clear hM1 hnL Hrw
  go_upto_region 3 with (fail)
  go_loopw [5, 7, 11] (fun s5 _ s11 wq => ∃ (k : Nat) (nx : Int), k ≤ nL ∧ s11 = .int .i64 (k : Int) ∧ s5 = .int .i64 nx ∧ 0 ≤ nx ∧ nx ≤ words ∧ roomF (decide (col = 1)) words n (conts cs) a (TL.drop k) nx = R ∧
    Mem B w0 wq (rowI 3 (.slice aL nL cL) TL :: (rA bx regs mv bm bt nt vo cs (atF (conts cs) a) col words times ++ (objsE cs ++ T)))) (fun _ _ i _ => nL - (intOf i).toNat)
  case atStart => exact ⟨0, 0, Nat.zero_le _, rfl, rfl, Int.le_refl _, H3.out.1, HR.out, HM1.out⟩
  case round =>
    clear HM1 HR
    obtain ⟨k, nx, hk, rfl, rfl, hx0, hx1, hrf, hM⟩ := hrel
    have m2 : wr.cell? ⟨bm, 2, none⟩ = some (.map (some bt)) := hM.cell 2 rfl 2
    have m3 : wr.cell? ⟨bm, 3, none⟩ = some (.int .i64 col) := hM.cell 2 rfl 3
    have m4 : wr.cell? ⟨bm, 4, none⟩ = some (.int .i64 words) := hM.cell 2 rfl 4
    have mb : bm < wr.heap.size := (hM.box 2 rfl).2.1
    by_cases hlt : k < nL
    · obtain ⟨i, hi⟩ := get_some TL k (by rw [HnL.out]; exact hlt)
      obtain ⟨hli, hi0, hi1⟩ := Hmem.out i (List.mem_of_getElem? hi)
      obtain ⟨gL, capL, hvL, _, bL, cL2, _⟩ := hM.intsAt 0 rfl (by rintro rfl; simp at hi)
      have d0 := cL2 k _ hi
      have haL : aL = some ⟨gL, 0, none⟩ := by cases hvL; rfl
      subst haL
      have hsz := szO_pos (conts cs) i
      have hok : i64ok i := by
        have h1 := hli.1
        have h2 := hli.lt
        rw [conts_len] at h2
        exact ⟨by omega, by omega⟩
      have hlk := fun q => (gmap_look (gmap_move (X := wr.drewN q) (hM.get 4 rfl) rfl) hok).1
      rw [show (atF (conts cs) a i).getD mapII.zero = .int .i64 (cAt a i) by rw [atF_live hli]; rfl] at hlk
      have L1 : ∀ q, (Instr.lookup 109 (.map (some bt)) (.int .i64 i) false).run Try.prog (wr.drewN q) = .ok (.int .i64 (cAt a i)) (wr.drewN q) := hlk
      have L0 : (Instr.lookup 109 (.map (some bt)) (.int .i64 i) false).run Try.prog wr = .ok (.int .i64 (cAt a i)) wr := hlk 0
      have hM' := hM.drop (List.sublist_cons_self _ _)
      have hs4 : (objAt (conts cs) i).length ≤ 1000 := by unfold szO at hi1; have := H3.out; omega
      have HSz : Hid (∀ q, Calls Try.prog 85 #[.pointer (some ⟨bm, 0, none⟩), .int .i64 i] (wr.drewN q) fun e w' => e = .returned (.int .i64 (szO (conts cs) i)) ∧ wr.drewN q = w') := Lib.hid fun q =>
        rsize_any B w0 bx regs mv bm bt nt vo cs (atF (conts cs) a) col words times T (wr.drewN q) (hM'.drewN q) i hli hs4
      have hdr := drop_at hi
      rw [hdr] at hrf
      unfold roomF at hrf
      have HMr := Lib.hid hM
      have Hrf := Lib.hid hrf
      have e1 : (k : Int) < (nL : Int) := by omega
      obtain ⟨p, hp⟩ : ∃ p, cAt a i = p := ⟨_, rfl⟩
      obtain ⟨z, hz⟩ : ∃ z, szO (conts cs) i = z := ⟨_, rfl⟩
      rw [hp] at L0 L1 Hrf hi0 hi1
      rw [hz] at HSz Hrf hi1 hsz
      have b1 : IntKind.i64.wrap (p - nx) = p - nx := by have := H3.out; exact IntWalk.i64_in _ (by omega)
      have b2 : IntKind.i64.wrap (p + z) = p + z := by have := H3.out; exact IntWalk.i64_in _ (by omega)
      clear hi hli hvL cL2 hM hM' hlk hdr hrf hp hz hs4 hok
      by_cases hc : col = 1
      · subst hc
        by_cases hg : n ≤ p - nx
        · have hrr := Hrf.out
          rw [if_pos ⟨by decide, hg⟩] at hrr
          subst hrr
          clear Hrf HSz L1
          go_wp2_with fail
          go_ret
          exact ⟨rfl, HMr.out.drop (List.sublist_cons_self _ _)⟩
        · have hrr := Hrf.out
          rw [if_neg (fun h => hg h.2)] at hrr
          have Hrr := Lib.hid hrr
          clear Hrf hrr
          go_wp2_with fail
          go_quiet (first | (exact Calls.quiet_of_same ((HSz.out _).mono (fun _ _ h => ⟨h.1, h.2.symm⟩))) | fail)
          go_wp2_with fail
          go_roundw
          case rel => exact ⟨k + 1, p + z, by omega, by go_num, rfl, by omega, by omega, Hrr.out, HMr.out.drewN _⟩
          case measure => simp [intOf]; omega
      · have hcb : (col == 1) = false := by simpa using hc
        have hrr := Hrf.out
        rw [if_neg (fun h => hc (by simpa using h.1))] at hrr
        have Hrr := Lib.hid hrr
        clear Hrf hrr
        go_wp2_with fail
        go_quiet (first | (exact Calls.quiet_of_same ((HSz.out _).mono (fun _ _ h => ⟨h.1, h.2.symm⟩))) | fail)
        go_wp2_with fail
        go_roundw
        case rel => exact ⟨k + 1, p + z, by omega, by go_num, rfl, by omega, by omega, Hrr.out, HMr.out.drewN _⟩
        case measure => simp [intOf]; omega
    · obtain rfl : k = nL := by omega
      rw [List.drop_of_length_le (by rw [HnL.out]; exact Nat.le_refl _)] at hrf
      unfold roomF at hrf
      have HMr := Lib.hid (hM.drop (List.sublist_cons_self _ _))
      have b1 : IntKind.i64.wrap (words - nx) = words - nx := by have := H3.out; exact IntWalk.i64_in _ (by omega)
      by_cases hg : n ≤ words - nx
      · rw [if_pos hg] at hrf
        subst hrf
        clear hM
        go_wp2_with fail
        go_ret
        exact ⟨rfl, HMr.out⟩
      · rw [if_neg hg] at hrf
        subst hrf
        clear hM
        go_wp2_with fail
        go_ret
        exact ⟨rfl, HMr.out⟩
theorem atF_put {os : Os} {a : List Int} {i : Int} (hi : Lives os i) (hl : a.length = os.length) (x : Int) : (fun u => if u = i then some (Value.int .i64 x) else atF os a u) = atF os (a.set i.toNat x) := by
  funext u
  have h1 := hi.lt
  have h2 := hi.1
  by_cases h : u = i
  · subst h
    rw [if_pos rfl, atF_live hi, cAt_set _ h2 (by omega) h2, if_pos rfl]
  · rw [if_neg h]
    unfold atF
    by_cases hu : 0 ≤ u ∧ ((os[u.toNat]?).getD none).isSome = true
    · rw [if_pos hu, if_pos hu, cAt_set _ h2 (by omega) hu.1, if_neg h]
    · rw [if_neg hu, if_neg hu]
set_option maxRecDepth 100000 in
set_option maxHeartbeats 4000000 in
theorem rdown_any (w : World) (a : List Int) (al : Option Addr) (nl cl : Nat) (l : List Int) (hnl : l.length = nl) (hl : nl ≤ 1000) (hnt : nt + nl ≤ 100000) (hlv : ∀ x ∈ l, Lives (conts cs) x ∧ (objAt (conts cs) x).length ≤ 4) (ha : a.length = cs.length) (hn : cs.length ≤ 1000)
    (hM : Mem B w0 w (rowI 3 (.slice al nl cl) l :: (rA bx regs mv bm bt nt vo cs (atF (conts cs) a) col words times ++ (objsE cs ++ T)))) :
    Calls Try.prog 72 #[.pointer (some ⟨bm, 0, none⟩), .slice al nl cl] w fun e w' => e = .returned (.tuple #[]) ∧ Mem B w0 w' (rA bx regs mv bm bt (nt + nl) vo cs (atF (conts cs) (downF (conts cs) l 0 a)) col words times ++ (objsE cs ++ T)) := by
  obtain ⟨D, hD⟩ : ∃ D, downF (conts cs) l 0 a = D := ⟨_, rfl⟩
  rw [hD]
  have HD := Lib.hid hD
  have HM := Lib.hid hM
  have Hlv := Lib.hid hlv
  have HnL := Lib.hid hnl
  have Ha := Lib.hid ha
  clear hM hD hlv hnl ha
  go_enter Try.func72, Try.ntmps72
  go_upto_region 2 with (fail)
  go_loopw [4, 6, 9] (fun s4 _ s9 wq => ∃ (k : Nat) (nx : Int) (aq : List Int), k ≤ nl ∧ s9 = .int .i64 (k : Int) ∧ s4 = .int .i64 nx ∧ 0 ≤ nx ∧ nx ≤ 5 * k ∧ aq.length = cs.length ∧ downF (conts cs) (l.drop k) nx aq = D ∧
    Mem B w0 wq (rowI 3 (.slice al nl cl) l :: (rA bx regs mv bm bt (nt + k) vo cs (atF (conts cs) aq) col words times ++ (objsE cs ++ T)))) (fun _ _ i _ => nl - (intOf i).toNat)
  case atStart => exact ⟨0, 0, a, Nat.zero_le _, rfl, rfl, Int.le_refl _, Int.le_refl _, Ha.out, HD.out, HM.out⟩
  case round =>
    clear HM HD
    obtain ⟨k, nx, aq, hk, rfl, rfl, hx0, hx1, haq, hdf, hM⟩ := hrel
    by_cases hlt : k < nl
    · obtain ⟨i, hi⟩ := get_some l k (by rw [HnL.out]; exact hlt)
      obtain ⟨hli, hi4⟩ := Hlv.out i (List.mem_of_getElem? hi)
      obtain ⟨gL, capL, hvL, _, bL, cL2, _⟩ := hM.intsAt 0 rfl (by rintro rfl; simp at hi)
      have d0 := cL2 k _ hi
      have haL : al = some ⟨gL, 0, none⟩ := by cases hvL; rfl
      subst haL
      have m2 : wr.cell? ⟨bm, 2, none⟩ = some (.map (some bt)) := hM.cell 2 rfl 2
      have mb : bm < wr.heap.size := (hM.box 2 rfl).2.1
      have hok : i64ok i := by
        have h1 := hli.1
        have h2 := hli.lt
        rw [conts_len] at h2
        exact ⟨by omega, by omega⟩
      have hdr := drop_at hi
      rw [hdr] at hdf
      unfold downF at hdf
      have hput := atF_put hli (by rw [haq, conts_len]) nx
      have e1 : (k : Int) < (nl : Int) := by omega
      have HMr := Lib.hid hM
      have Hdf := Lib.hid hdf
      have Hput := Lib.hid hput
      have Hli := Lib.hid (And.intro hli hi4)
      have Haq := Lib.hid haq
      have hsz : szO (conts cs) i ≤ 5 := by unfold szO; omega
      have hsz1 := szO_pos (conts cs) i
      obtain ⟨z, hz⟩ : ∃ z, szO (conts cs) i = z := ⟨_, rfl⟩
      rw [hz] at hsz hsz1 Hdf
      have Hz := Lib.hid hz
      have b2 : IntKind.i64.wrap (nx + z) = nx + z := IntWalk.i64_in _ (by omega)
      have hnk : nt + k ≤ 100000 := by omega
      clear hM hdf hput hli hi4 hdr hi hvL cL2 haq hz
      go_wp2_with (first
        | (at_mapUpdate
           refine Mem.wp_putG (M := mapII) rfl (.tmp 16) (.tmp 17) (.tmp 18) rfl HMr.out 4 rfl hnk rfl i (.int .i64 nx) rfl rfl hok ?_
           intro w6 hM6 hs6
           rw [Hput.out] at hM6
           have HM6 := Lib.hid hM6
           clear hM6)
        | fail)
      have hsc := rsize_any B w0 bx regs mv bm bt (nt + k + 1) vo cs (atF (conts cs) (aq.set i.toNat nx)) col words times T w6 (HM6.out.drop (List.sublist_cons_self _ _)) i Hli.out.1 (by have := Hli.out.2; omega)
      rw [Hz.out] at hsc
      have Hsc := Lib.hid hsc
      clear hsc
      refine Hsc.out.mono ?_
      rintro e w7 ⟨rfl, rfl⟩
      go_wp2_with fail
      go_roundw
      case rel => exact ⟨k + 1, nx + z, _, by omega, by go_num, rfl, by omega, by omega, by rw [List.length_set]; exact Haq.out, Hdf.out, HM6.out⟩
      case measure => simp [intOf]; omega
    · obtain rfl : k = nl := by omega
      rw [List.drop_of_length_le (by rw [HnL.out]; exact Nat.le_refl _)] at hdf
      unfold downF at hdf
      subst hdf
      have HMr := Lib.hid (hM.drop (List.sublist_cons_self _ _))
      clear hM
      go_wp2_with fail
      refine bodyPost_end (results_none rfl _ _ _) rfl ?_
      exact ⟨rfl, HMr.out⟩
end
end Go.Proofs.Ytjnbnfmlpdnngaa
