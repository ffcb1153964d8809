/- Texts Cm Mp Rn Rg Fl Cs Rm in one. -/
import Derived.Test.YtjnbnfmlpdnngaaBase3
import Derived.Test.YtjnbnfmlpdnngaaBase1
import Derived.Maps.Own
import Derived.Maps.OwnOps
import Derived.Maps.Views
import Derived.WalkArith
import Derived.Laws.EntriesVeiled
/- Behind a call that hands back what it owns; bounds of distances. Plain. -/
namespace Go.Proofs.Ytjnbnfmlpdnngaa
open Go.RowKit Go.Shelf

theorem dist_bound {g : G} {l dist : List Int} (h : Far g l dist) : ∀ x ∈ dist, -1 ≤ x ∧ x ≤ (l.length : Int) := by
  intro x hx
  refine ⟨h.inv.low x hx, ?_⟩
  obtain ⟨i, hi, rfl⟩ := List.getElem_of_mem hx
  have hn := h.inv.len
  by_cases h0 : 0 ≤ dist[i]
  · have h1 : (i : Int) ∈ l := (h.inv.iff i (by simpa using (show i < g.objs.length by simp only at hn; omega))).1 (by
      show 0 ≤ dist.getD i 0
      rw [List.getD_eq_getElem?_getD, List.getElem?_eq_getElem hi]; exact h0)
    obtain ⟨j, hj, he⟩ := List.getElem_of_mem h1
    have h2 := h.inv.le j (i : Int) (by show l[j]? = some (i : Int); rw [List.getElem?_eq_getElem hj, he])
    have h3 : dist.getD i 0 = dist[i] := by rw [List.getD_eq_getElem?_getD, List.getElem?_eq_getElem hi]; rfl
    simp only [Int.toNat_natCast] at h2
    rw [h3] at h2
    omega
  · omega
theorem isInts_dist {g : G} (hG : Good g) {l dist : List Int} (h : Far g l dist) {w : World} {B : Nat} {w0 : World} {L : List Ent} (k : Nat) {v : Value} (hM : Mem B w0 w L) (hk : L[k]? = some (rowI 3 v dist)) : IsInts w v dist := by
  have hn := h.inv.len
  have hll := h.inv.length_le
  have := hG.objs
  simp only at hn hll
  refine isInts_of_own (hM.ownI k hk) (by omega) ?_
  intro x hx
  have := dist_bound h x hx
  exact ⟨by omega, by omega⟩
end Go.Proofs.Ytjnbnfmlpdnngaa

/- A map from int64 to int64 of the call's own. -/
namespace Go.Proofs.Ytjnbnfmlpdnngaa
open Go.RowKit Go.Maps

theorem keyedI : Keyed Try.prog 2 := int_keyed Try.underlying2
theorem zeroI (w : World) : (zeroValue 2).run Try.prog w = .ok (.int .i64 0) w := by kernel_rfl

/-- Block b is a map of at most n entries; it tells p y at y. -/
def emap (b n : Nat) (p : Int → Int) : Ent := ⟨some b, fun o => ∃ (wv : World) (D : DataW Unit), wv.heap[b]? = o ∧ wv.ownsMap Try.prog 2 (plainElem Try.prog 2) b n D ∧ IsMap D ∧
  ∀ y, i64ok y → D.atKey (.int .i64 y) (.lit (.int .i64 0)) = .lit (.int .i64 (p y))⟩
theorem emap_own {B b n : Nat} {p : Int → Int} {w : World} (h : (emap b n p).ok B w) : B ≤ b ∧ b < w.heap.size ∧ ∃ D : DataW Unit, w.ownsMap Try.prog 2 (plainElem Try.prog 2) b n D ∧ IsMap D ∧
    ∀ y, i64ok y → D.atKey (.int .i64 y) (.lit (.int .i64 0)) = .lit (.int .i64 (p y)) := by
  obtain ⟨h1, wv, D, h2, ⟨es, clock, hb, r⟩, h4, h5⟩ := h
  obtain ⟨a, c⟩ := h1 b rfl
  refine ⟨a, c, D, ⟨es, clock, ?_, r⟩, h4, h5⟩
  have : w.heap[b]? = wv.heap[b]? := h2.symm
  rw [this]; exact hb
theorem emap_ok {B b n : Nat} {p : Int → Int} {w : World} {D : DataW Unit} (hB : B ≤ b) (h : w.ownsMap Try.prog 2 (plainElem Try.prog 2) b n D) (hm : IsMap D)
    (hp : ∀ y, i64ok y → D.atKey (.int .i64 y) (.lit (.int .i64 0)) = .lit (.int .i64 (p y))) : (emap b n p).ok B w :=
  ⟨fun b' e => by cases e; exact ⟨hB, h.lt⟩, w, D, rfl, h, hm, hp⟩

section
variable {B : Nat} {w0 w : World} {L : List Ent}

theorem Mem.newMap (h : Mem B w0 w L) : Mem B w0 (w.alloc (.map #[] 0)) (emap w.heap.size 0 (fun _ => 0) :: L) := by
  refine (h.alloc_ _).cons _ (emap_ok h.base (World.ownsMap_made w _ _ _) ⟨[], rfl⟩ (fun _ _ => rfl)) ?_
  intro y hy b e e'
  cases e
  have := (h.lt hy _ e').2
  omega
theorem look_ok {b n : Nat} {p : Int → Int} (h : (emap b n p).ok B w) {y : Int} (hy : i64ok y) :
    (Instr.lookup 152 (.map (some b)) (.int .i64 y) false).run Try.prog w = .ok (.int .i64 (p y)) w := by
  obtain ⟨_, _, D, h1, _, h3⟩ := emap_own h
  obtain ⟨c, hrun, hat, _⟩ := h1.lookup_int keyedI Try.underlying152 Try.underlying2 (zeroI w) (keyOf_int_mk Try.underlying2 (WalkArith.wf_i64 hy))
  rw [h3 y hy] at hat
  cases hat
  exact hrun
theorem Mem.look (h : Mem B w0 w L) (k : Nat) {b n : Nat} {p : Int → Int} (hk : L[k]? = some (emap b n p)) {y : Int} (hy : i64ok y) :
    (Instr.lookup 152 (.map (some b)) (.int .i64 y) false).run Try.prog w = .ok (.int .i64 (p y)) w := look_ok (h.get k hk) hy

theorem Mem.wp_put {ops : Array Oper} {rest : List Oper} {o : Oper} {a : Act} {Q : Exit → Act → World → Prop} (hgd : o.guard = none) (m x v : Operand) (hop : o.op = Op.mapUpdate 152 m x v)
    (h : Mem B w0 w L) (k : Nat) {b n : Nat} {p : Int → Int} (hk : L[k]? = some (emap b n p)) (hn : n ≤ 1000) (hm : a.eval m = .map (some b)) (y z : Int) (hx : a.eval x = .int .i64 y) (hv : a.eval v = .int .i64 z) (hy : i64ok y) (hz : i64ok z)
    (hK : ∀ w', Mem B w0 w' (L.set k (emap b (n + 1) (fun u => if u = y then z else p u))) → wpList Try.prog ops Q rest (a.put o.dst undef) w') : wpList Try.prog ops Q (o :: rest) a w := by
  obtain ⟨hB, _, D, h1, h2, h3⟩ := emap_own (h.get k hk)
  refine wpList_mapUpdate_own w hgd m x v _ hop _ _ keyedI Try.underlying152 _ b n D hm h1 (by unfold maxLen; omega) _ _ _ hx hv (keyOf_int_mk Try.underlying2 (WalkArith.wf_i64 hy)) _ []
    (plainElem_int Try.underlying2 (WalkArith.wf_i64 hz)) ?_
  intro w' hown hg
  refine hK w' (h.turn k hk hg (emap_ok hB hown ?_ ?_) (fun b' e => .inl e))
  · obtain ⟨es, rfl⟩ := h2; exact ⟨_, rfl⟩
  · intro u hu
    by_cases e : u = y
    · subst e
      rw [if_pos rfl]
      exact atKey_put_same h2 (by simp [WideAt.IsKeyLit]) _ _
    · rw [if_neg e, atKey_put_other (by intro e2; cases e2; exact e rfl)]
      exact h3 u hu
end
end Go.Proofs.Ytjnbnfmlpdnngaa

/- graph.Renumber, walked. -/
namespace Go.Proofs.Ytjnbnfmlpdnngaa
open Go.RowKit Go.Shelf


set_option maxRecDepth 100000 in
set_option maxHeartbeats 1000000 in
theorem turn_any (w : World) (vs : Value) (l : List V) (Bm b n : Nat) (p : Int → Int) (hl : IsVals w vs l) (hB : w.cell? ⟨Bm, 0, none⟩ = some (.map (some b))) (hB2 : Bm < w.heap.size) (hm : (emap b n p).ok 0 w) (hlen : l.length ≤ 1000) :
    Calls Try.prog 69 #[vs, .pointer (some ⟨Bm, 0, none⟩)] w fun e w' => ∃ v', e = .returned v' ∧ Mem w.heap.size w w' [rowV 84 v' (l.map (turnV p))] := by
  obtain ⟨a, cap, rfl, _⟩ := hl.slice
  have Hl := Lib.hid hl
  have Hm := Lib.hid hm
  have HB := Lib.hid hB
  clear hl hm hB
  have hM0 := (Mem.start w).nilV 84
  go_enter Try.func69, Try.ntmps69
  go_wp2
  go_loopw [4, 9] (fun v i wr => ∃ k : Nat, k ≤ l.length ∧ i = .int .i64 k ∧ Mem w.heap.size w wr [rowV 84 v ((l.take k).map (turnV p))]) (fun _ i _ => l.length - (intOf i).toNat)
  case atStart => exact ⟨0, Nat.zero_le _, rfl, hM0⟩
  case round =>
    obtain ⟨k, hk, rfl, hM⟩ := hrel
    by_cases hlt : k < l.length
    · obtain ⟨y, hx⟩ := get_some _ _ hlt
      obtain ⟨bl, off, cap2, hv, hb, hn, c1, c2, hi⟩ := Hl.out.at hM.below hx
      cases hv
      have HS := Lib.hid (take_succ_some _ _ _ hx)
      have htl : ((l.take k).map (turnV p)).length ≤ 1000000 := by rw [List.length_map]; have := take_len_le l k; omega
      have r0 : wr.cell? ⟨Bm, 0, none⟩ = some (.map (some b)) := (hM.below.cell (p := ⟨_, _, none⟩) hB2).trans HB.out
      have hB3 : Bm < wr.heap.size := Nat.lt_of_lt_of_le hB2 hM.below.size
      have HM := Lib.hid hM
      have Htl := Lib.hid htl
      obtain ⟨r, m⟩ := y
      have hlook : ∀ o, (Instr.lookup 152 (.map (some b)) (.int .i64 m) false).run Try.prog (wr.alloc o) = .ok (.int .i64 (p m)) (wr.alloc o) := by
        intro o
        refine look_ok (Ent.ok_same Hm.out ?_ ?_) hi
        · simp; have := HM.out.below.size; omega
        · intro b' e
          cases e
          have hbw := (Hm.out.1 b rfl).2
          exact ((hM.alloc_ o).below.block b hbw)
      clear hx hM htl hi
      cases r
      · go_wp2_with (at_builtin; refine Mem.wp_appV elemVals rfl (.tmp 20) (.tmp 22) rfl (HM.out.alloc_ _) 0 rfl rfl _ ⟨false, m⟩ _ _ rfl (by simp) Htl.out ?_; intro ad n1 cp w1 hn1 hM3 hs1 hk1 ha1)
        go_roundw
        case rel => exact ⟨k + 1, by omega, by go_num, hM3.cast (by rw [HS.out]; simp [turnV])⟩
        case measure => simp [intOf]; omega
      · go_wp2_with (at_builtin; refine Mem.wp_appV elemVals rfl (.tmp 20) (.tmp 22) rfl (HM.out.alloc_ _) 0 rfl rfl _ ⟨true, p m⟩ _ _ rfl (by simp) Htl.out ?_; intro ad n1 cp w1 hn1 hM3 hs1 hk1 ha1)
        go_roundw
        case rel => exact ⟨k + 1, by omega, by go_num, hM3.cast (by rw [HS.out]; simp [turnV])⟩
        case measure => simp [intOf]; omega
    · obtain rfl : k = l.length := by omega
      rw [List.take_length] at hM
      go_wp2
      go_ret
      exact ⟨_, rfl, hM⟩
end Go.Proofs.Ytjnbnfmlpdnngaa

/- append as one step of a drawing region; slices of objects of the call's own. -/
namespace Go.Proofs.Ytjnbnfmlpdnngaa
end Go.Proofs.Ytjnbnfmlpdnngaa

/- Small facts on graphs: four fields at most; a graph's shape. -/
namespace Go.Proofs.Ytjnbnfmlpdnngaa
open Go.RowKit

theorem fieldsAt_len {g : G} (hG : Good g) (x : Int) : (fieldsAt g x).length ≤ 4 := by
  unfold fieldsAt
  rw [List.getD_eq_getElem?_getD]
  cases h : g.objs[x.toNat]? with
  | none => simp
  | some o => exact hG.fields o (List.mem_of_getElem? h)
theorem IsGraph.shape {w : World} {v : Value} {g : G} (h : IsGraph w v g) : ∃ ao co ar cr, v = .agg #[.slice ao g.objs.length co, .slice ar g.roots.length cr] ∧ g.objs.length ≤ 9223372036854775807 ∧ g.roots.length ≤ 9223372036854775807 := by
  obtain ⟨vo, vr, rfl, ho, hr⟩ := h
  obtain ⟨ao, co, rfl, h1⟩ := ho.slice
  obtain ⟨ar, cr, rfl, h2⟩ := hr.slice
  exact ⟨ao, co, ar, cr, rfl, h1, h2⟩
end Go.Proofs.Ytjnbnfmlpdnngaa

/- A graph numbered as found, plainly: one for each graph. -/
namespace Go.Proofs.Ytjnbnfmlpdnngaa

/-- Which place a number has in a list, as the map tells it. -/
def at_ (l : List Int) : Nat → Int → Int
  | 0 => fun _ => 0
  | k + 1 => fun y => if y = l.getD k 0 then k else at_ l k y
theorem at_rng (l : List Int) : ∀ k y, 0 ≤ at_ l k y ∧ at_ l k y ≤ k := by
  intro k
  induction k with
  | zero => intro y; exact ⟨Int.le_refl _, Int.le_refl _⟩
  | succ k ih =>
    intro y
    unfold at_
    split
    · omega
    · have := ih y; omega
def renum (g : G) (l : List Int) : G := ⟨l.map fun x => (fieldsAt g x).map (turnV (at_ l l.length)), g.roots.map (turnV (at_ l l.length))⟩

/-- What Canon makes of a good graph. -/
def CanonS (g c : G) : Prop := ∃ l dist, FoundS g l dist ∧ c = renum g l
theorem FoundS.unique {g : G} {l d l' d' : List Int} (h : FoundS g l d) (h' : FoundS g l' d') : l = l' ∧ d = d' := by
  obtain ⟨k, h1, h2, h3⟩ := h
  obtain ⟨k', h1', h2', h3'⟩ := h'
  have : k = k' := by
    rcases Nat.lt_trichotomy k k' with h | h | h
    · have := h3' k h; rw [h1] at this; simp only at this; omega
    · exact h
    · have := h3 k' h; rw [h1'] at this; simp only at this; omega
  subst this
  rw [h1] at h1'
  cases h1'
  exact ⟨rfl, rfl⟩
theorem CanonS.unique {g c c' : G} (h : CanonS g c) (h' : CanonS g c') : c = c' := by
  obtain ⟨l, d, h1, rfl⟩ := h
  obtain ⟨l', d', h1', rfl⟩ := h'
  rw [(h1.unique h1').1]

end Go.Proofs.Ytjnbnfmlpdnngaa

/- graph.Renumber and graph.Canon, walked. -/
namespace Go.Proofs.Ytjnbnfmlpdnngaa
open Go.RowKit Go.Shelf

theorem turnV_ok {g : G} (hG : Fits g) (l : List Int) (hl : l.length ≤ 1000) {v : V} (hv : v ∈ allV g) : i64ok (turnV (at_ l l.length) v).n := by
  have h := hG.vals v hv
  unfold turnV
  split
  · have := at_rng l l.length v.n
    exact ⟨by simp only; omega, by simp only; omega⟩
  · exact h
set_option maxRecDepth 100000 in
set_option maxHeartbeats 4000000 in
theorem renumber_fits (g : G) (hG : Fits g) (v : Value) (u : Value) (l : List Int) (w : World) (hg : IsGraph w v g) (hu : IsInts w u l) (hl : l.length ≤ 1000) (hr : ∀ x ∈ l, 0 ≤ x ∧ x < (g.objs.length : Int)) :
    Calls Try.prog 48 #[v, u] w fun e w' => ∃ v', e = .returned v' ∧ Graft w.heap.size w' v' (renum g l) ∧ Below w.heap.size w w' := by
  obtain ⟨vo, vr, rfl, ho, hro⟩ := hg
  obtain ⟨ao, co, rfl, hlo⟩ := ho.slice
  obtain ⟨ar, cr, rfl, hlr⟩ := hro.slice
  obtain ⟨au, cu, rfl, hlu⟩ := hu.slice
  have Ho := Lib.hid ho
  have Hro := Lib.hid hro
  have Hu := Lib.hid hu
  have HR := Lib.hid hr
  clear ho hro hu hr
  have hmm := @run_makeMap Try.prog
  have hM0 := ((((Mem.start w).alloc #[.slice ao g.objs.length co, .slice ar g.roots.length cr] 25).allocAt (w.heap.size + 1) (by simp) #[.slice none 0 0, .slice none 0 0] 25).newMap).alloc #[.map (some (w.heap.size + 2))] 152
  have hM0b : Mem w.heap.size w ((((w.alloc (.cells #[.slice ao g.objs.length co, .slice ar g.roots.length cr] 25)).alloc (.cells #[.slice none 0 0, .slice none 0 0] 25)).alloc (.map #[] 0)).alloc (.cells #[.map (some (w.heap.size + 2))] 152))
      [ebox (w.heap.size + 3) #[.map (some (w.heap.size + 2))] 152, emap (w.heap.size + 2) 0 (at_ l 0), ebox (w.heap.size + 1) #[.slice none 0 0, .slice none 0 0] 25, ebox w.heap.size #[.slice ao g.objs.length co, .slice ar g.roots.length cr] 25] := by
    have := hM0
    simp only [World.size_alloc, Nat.add_assoc, Nat.reduceAdd] at this
    exact this
  clear hM0
  go_enter Try.func48, Try.ntmps48
  go_wp2
  go_loopw [15] (fun i wr => ∃ k : Nat, k ≤ l.length ∧ i = .int .i64 k ∧ Mem w.heap.size w wr [ebox (w.heap.size + 3) #[.map (some (w.heap.size + 2))] 152, emap (w.heap.size + 2) k (at_ l k), ebox (w.heap.size + 1) #[.slice none 0 0, .slice none 0 0] 25, ebox w.heap.size #[.slice ao g.objs.length co, .slice ar g.roots.length cr] 25])
    (fun i _ => l.length - (intOf i).toNat)
  case atStart => exact ⟨0, Nat.zero_le _, rfl, hM0b⟩
  case round =>
    obtain ⟨k, hk, rfl, hM⟩ := hrel
    have p0 : wr.cell? ⟨w.heap.size + 3, 0, none⟩ = some (.map (some (w.heap.size + 2))) := by have := hM.cell 0 rfl 0; simpa using this
    by_cases hlt : k < l.length
    · obtain ⟨x, hx⟩ := get_some _ _ hlt
      obtain ⟨bx, ox, cap2, hv, hb, hn, c1, hxi⟩ := Hu.out.at hM.below hx
      cases hv
      have HS : Hid (l.getD k 0 = x) := Lib.hid (by rw [List.getD_eq_getElem?_getD, hx]; rfl)
      have HM := Lib.hid hM
      have Hxi := Lib.hid hxi
      clear hx hM hxi
      go_wp2_with (at_mapUpdate; refine Mem.wp_put rfl _ _ _ rfl HM.out 1 rfl (by omega) rfl x k rfl rfl Hxi.out ⟨by omega, by omega⟩ ?_; intro w1 hM1)
      go_roundw
      case rel => exact ⟨k + 1, by omega, by go_num, hM1.cast (by rw [at_, HS.out]; rfl)⟩
      case measure => simp [intOf]; omega
    · obtain rfl : k = l.length := by omega
      have HM := Lib.hid hM
      have p1 : wr.cell? ⟨w.heap.size, 0, none⟩ = some (.slice ao g.objs.length co) := by have := hM.cell 3 rfl 0; simpa using this
      have p2 : wr.cell? ⟨w.heap.size, 1, none⟩ = some (.slice ar g.roots.length cr) := by have := hM.cell 3 rfl 1; simpa using this
      clear hM
      have hem := HM.out.get 1 rfl
      have hlt3 : w.heap.size + 3 < wr.heap.size := (HM.out.box 0 rfl).2.1
      go_wp2_with fail
      refine (turn_any wr _ g.roots _ _ _ _ (Hro.out.later HM.out.below) p0 hlt3 (Ent.ok_weak hem (Nat.zero_le _)) (by have := hG.roots; omega)).mono ?_
      rintro e w1 ⟨vR, rfl, hM1⟩
      obtain ⟨aR, nR, cR, rfl⟩ := hM1.isSlice 0 rfl
      have hM2 := HM.out.callMem hM1
      obtain ⟨q, hq⟩ : ∃ q, at_ l l.length = q := ⟨_, rfl⟩
      rw [hq] at hM2
      have hM3 := hM2.alloc #[.slice none 0 0, .slice aR nR cR] 25
      have hM4 : Mem w.heap.size w (w1.alloc (.cells #[.slice none 0 0, .slice aR nR cR] 25)) ([ebox w1.heap.size #[.slice none 0 0, .slice aR nR cR] 25, erow 61 1 (.slice none 0 0) 0 [], rowV 84 (.slice aR nR cR) (g.roots.map (turnV q)), ebox (w.heap.size + 3) #[.map (some (w.heap.size + 2))] 152, emap (w.heap.size + 2) l.length q, ebox (w.heap.size + 1) #[.slice none 0 0, .slice none 0 0] 25, ebox w.heap.size #[.slice ao g.objs.length co, .slice ar g.roots.length cr] 25] ++ rowsE []) :=
        (hM3.nil 61 1).pick0 [1, 0, 2, 3, 4, 5, 6] (by decide) rfl
      have Hq := Lib.hid hq
      clear hM1 hM2 hM3 hq hem
      go_wp2
      go_loopw [32] (fun i wr => ∃ (k : Nat) (vO : Value) (rows : Rws), k ≤ l.length ∧ i = .int .i64 k ∧ rows.map (·.2) = (l.take k).map (fun x => (fieldsAt g x).map (turnV q)) ∧
        Mem w.heap.size w wr ([ebox w1.heap.size #[vO, .slice aR nR cR] 25, erow 61 1 vO k (rows.map (·.1)), rowV 84 (.slice aR nR cR) (g.roots.map (turnV q)), ebox (w.heap.size + 3) #[.map (some (w.heap.size + 2))] 152, emap (w.heap.size + 2) l.length q, ebox (w.heap.size + 1) #[.slice none 0 0, .slice none 0 0] 25, ebox w.heap.size #[.slice ao g.objs.length co, .slice ar g.roots.length cr] 25] ++ rowsE rows))
        (fun i _ => l.length - (intOf i).toNat)
      case atStart => exact ⟨0, _, [], Nat.zero_le _, rfl, rfl, hM4⟩
      case round =>
        obtain ⟨k, vO, rows, hk, rfl, hrows, hM⟩ := hrel
        by_cases hlt : k < l.length
        · obtain ⟨x, hx⟩ := get_some _ _ hlt
          obtain ⟨bx, ox, cap2, hv, hb, hn, c1, hxi⟩ := Hu.out.at hM.below hx
          cases hv
          obtain ⟨hx0, hx1⟩ := HR.out x (List.mem_of_getElem? hx)
          obtain ⟨i, rfl⟩ : ∃ i : Nat, x = (i : Int) := ⟨x.toNat, by omega⟩
          have hi : i < g.objs.length := by omega
          obtain ⟨ob, hob⟩ := get_some _ _ hi
          obtain ⟨bo, oo, cap3, uo, hv2, hbo, hn3, c2, huo⟩ := Ho.out.at hM.below hob
          cases hv2
          obtain ⟨af, cf, rfl, hlf⟩ := huo.slice
          have s0 : wr.cell? ⟨w1.heap.size, 0, none⟩ = some vO := by have := hM.cell 0 rfl 0; simpa using this
          have s1 : wr.cell? ⟨w.heap.size, 0, none⟩ = some (.slice (some ⟨bo, oo, none⟩) g.objs.length co) := by have := hM.cell 6 rfl 0; simpa using this
          have s2 : wr.cell? ⟨w.heap.size + 3, 0, none⟩ = some (.map (some (w.heap.size + 2))) := by have := hM.cell 3 rfl 0; simpa using this
          have s3 : w.heap.size + 3 < wr.heap.size := (hM.box 3 rfl).2.1
          have Huo := Lib.hid (huo.later hM.below)
          have HM := Lib.hid hM
          have Hob := Lib.hid hob
          have Hx := Lib.hid hx
          have Hrows := Lib.hid hrows
          have Hem := Lib.hid (Ent.ok_weak (hM.get 4 rfl) (Nat.zero_le _))
          have hfl := hG.fields ob (List.mem_of_getElem? hob)
          clear hM hob hx hrows huo
          have hk1000 : k ≤ 1000000 := by omega
          have hgo : ob.length ≤ 1000 := by omega
          go_wp2
          go_region_law (first
            | (refine Mem.step_app1 elemObjs rfl (.tmp 37) (.tmp 47) rfl hM5 1 rfl rfl _ #[.slice aV nV cV] _ _ rfl rfl rfl rfl (by decide) hk1000 ?_
               intro ad cp w6 hM6 hs6 hk6
               have u0 : w6.cell? ⟨w1.heap.size, 0, none⟩ = some vO := by have := hM6.cell 0 rfl 0; simpa using this
               have u1 : w6.frozen? ⟨w1.heap.size, 0, none⟩ = false := hM6.free 0 rfl 0)
            | (go_simp
               refine (turn_any wr.drew _ ob _ _ _ _ Huo.out s2 s3 Hem.out hgo).mono ?_
               rintro e w4 ⟨vv, rfl, hM4⟩
               obtain ⟨aV, nV, cV, rfl⟩ := hM4.isSlice 0 rfl
               have hM5 := (HM.out.drew.callMem hM4).rowsSnoc
               have t0 : w4.cell? ⟨w1.heap.size, 0, none⟩ = some vO := by have := hM5.cell 0 rfl 0; simpa using this
               have t1 : w1.heap.size < w4.heap.size := (hM5.box 0 rfl).2.1))
          all_goals
            go_wp2
            go_roundw
            case rel =>
              refine ⟨k + 1, .slice ad (k + 1) cp, rows ++ [(.slice aV nV cV, ob.map (turnV q))], by omega, by go_num, ?_, ?_⟩
              · rw [take_succ_some _ _ _ Hx.out, List.map_append, List.map_append, Hrows.out]
                simp only [List.map_cons, List.map_nil]
                congr 2
                unfold fieldsAt
                rw [Int.toNat_natCast, List.getD_eq_getElem?_getD, Hob.out]; rfl
              · exact (hM6.setBox 0 rfl 0 (.slice ad (k + 1) cp)).cast (by simp)
            case measure => simp [intOf]; omega
        · obtain rfl : k = l.length := by omega
          rw [List.take_length] at hrows
          obtain ⟨aO, nO, cO, rfl⟩ := hM.isSlice 1 rfl
          have s0 : wr.cell? ⟨w1.heap.size, 0, none⟩ = some (.slice aO nO cO) := by have := hM.cell 0 rfl 0; simpa using this
          have s1 : wr.cell? ⟨w1.heap.size, 1, none⟩ = some (.slice aR nR cR) := by have := hM.cell 0 rfl 1; simpa using this
          have s2 : wr.cell? ⟨w.heap.size + 1, 0, none⟩ = some (.slice none 0 0) := by have := hM.cell 5 rfl 0; simpa using this
          have s3 : wr.cell? ⟨w.heap.size + 1, 1, none⟩ = some (.slice none 0 0) := by have := hM.cell 5 rfl 1; simpa using this
          have s4 : wr.frozen? ⟨w.heap.size + 1, 0, none⟩ = false := hM.free 5 rfl 0
          have s5 : wr.frozen? ⟨w.heap.size + 1, 1, none⟩ = false := hM.free 5 rfl 1
          have s6 : w.heap.size + 1 < wr.heap.size := (hM.box 5 rfl).2.1
          have hM6 := (hM.setBox 5 rfl 0 (.slice aO nO cO)).setBox 5 rfl 1 (.slice aR nR cR)
          have Hrows := Lib.hid hrows
          have HM6 := Lib.hid hM6
          clear hM hM6 hrows
          go_wp2
          obtain ⟨W6, hW6⟩ : ∃ W6, W6 = (wr.setCell ⟨w.heap.size + 1, 0, none⟩ (.slice aO nO cO)).setCell ⟨w.heap.size + 1, 1, none⟩ (.slice aR nR cR) := ⟨_, rfl⟩
          have hM7 := HM6.out
          rw [← hW6] at hM7 ⊢
          have r0 : W6.cell? ⟨w.heap.size + 1, 0, none⟩ = some (.slice aO nO cO) := by have := hM7.cell 5 rfl 0; simpa using this
          have r1 : W6.cell? ⟨w.heap.size + 1, 1, none⟩ = some (.slice aR nR cR) := by have := hM7.cell 5 rfl 1; simpa using this
          refine bodyPost_ret (v := .agg #[.slice aO nO cO, .slice aR nR cR]) (by simp [results, Try.results48, go_sem, r0, r1]) rfl ⟨_, rfl, ?_, hM7.below⟩
          intro W' hs' hb'
          have hM9 := hM7.move hs' hb'
          have hM8 : Mem w.heap.size W' W' (rowsE rows) := hM9.drop (List.sublist_append_right [_, _, _, _, _, _, _] _)
          refine ⟨_, _, rfl, ?_, ?_⟩
          · have hlen : rows.length = l.length := by have := congrArg List.length Hrows.out; simpa using this
            have h2 := isObjs_of_own (hM9.row 1 rfl) (by omega) (fun r hr => hM8.isValsM (e := 84) (List.mem_map.2 ⟨r, hr, rfl⟩) ?_ ?_)
            · rw [Hrows.out, ← Hq.out] at h2; exact h2
            · have h3 : r.2 ∈ rows.map (·.2) := List.mem_map.2 ⟨r, hr, rfl⟩
              rw [Hrows.out] at h3
              obtain ⟨x, _, he⟩ := List.mem_map.1 h3
              rw [← he, List.length_map]; have := hG.flen x; omega
            · have h3 : r.2 ∈ rows.map (·.2) := List.mem_map.2 ⟨r, hr, rfl⟩
              rw [Hrows.out] at h3
              obtain ⟨x, _, he⟩ := List.mem_map.1 h3
              intro y hy
              rw [← he] at hy
              obtain ⟨z, hz, rfl⟩ := List.mem_map.1 hy
              rw [← Hq.out]
              exact turnV_ok hG l hl (fields_all g x z hz)
          · have h2 := hM9.isVals 2 rfl (by rw [List.length_map]; have := hG.roots; omega) (by
              intro y hy
              obtain ⟨z, hz, rfl⟩ := List.mem_map.1 hy
              rw [← Hq.out]
              exact turnV_ok hG l hl (roots_all g z hz))
            rw [← Hq.out] at h2; exact h2
theorem renumber_any (g : G) (hG : Good g) (v : Value) (u : Value) (l : List Int) (w : World) (hg : IsGraph w v g) (hu : IsInts w u l) (hl : l.length ≤ 1000) (hr : ∀ x ∈ l, 0 ≤ x ∧ x < (g.objs.length : Int)) :
    Calls Try.prog 48 #[v, u] w fun e w' => ∃ v', e = .returned v' ∧ Graft w.heap.size w' v' (renum g l) ∧ Below w.heap.size w w' := renumber_fits g hG.fits v u l w hg hu hl hr
end Go.Proofs.Ytjnbnfmlpdnngaa
