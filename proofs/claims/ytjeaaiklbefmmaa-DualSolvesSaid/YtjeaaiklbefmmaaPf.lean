/- path.first and its closure, walked. -/
import Derived.Test.YtjeaaiklbefmmaaPl
import Derived.Test.YtjeaaiklbefmmaaMq
import Derived.Test.YtjeaaiklbefmmaaTt
import Derived.BigQuiet
import Derived.Laws.EntriesVeiled
namespace Go.Proofs.Ytjeaaiklbefmmaa
open Go.RowKit Go.Shelf Go.Maps

theorem keyedInt : Keyed Try.prog 3 := int_keyed Try.underlying3
/-- map[int]step. -/
def mapStep : MapT Try.prog Int where
  t := 69
  k := 3
  e := 72
  enc x := .int .i64 x
  lit x := .int .i64 x
  ok := i64ok
  zero := .agg #[.int .i64 0, .int .i64 0]
  keyed := keyedInt
  under := Try.underlying69
  key x hx := keyOf_int_mk Try.underlying3 (WalkArith.wf_i64 hx)
  inj x y h := by cases h; rfl
  zeroOk w := by kernel_rfl

def stepV (e : Pe) : Value := .agg #[.int .i64 e.frm, .int .i64 e.by_]
def fE (E : List Pe) (y : Int) : Option Value := (E.find? (fun e => e.obj == y)).map stepV
theorem fE_none {E : List Pe} {y : Int} (h : y ∉ E.map (·.obj)) : fE E y = none := by
  unfold fE
  rw [Option.map_eq_none_iff, List.find?_eq_none]
  intro e he
  have := fun h2 : e.obj = y => h (List.mem_map.2 ⟨e, he, h2⟩)
  simpa using this
theorem fE_some {E : List Pe} {y : Int} (h : y ∈ E.map (·.obj)) : ∃ e ∈ E, e.obj = y ∧ fE E y = some (stepV e) := by
  unfold fE
  cases hf : E.find? (fun e => e.obj == y) with
  | none =>
    rw [List.find?_eq_none] at hf
    obtain ⟨e, he, h2⟩ := List.mem_map.1 h
    exact absurd (by simp [h2]) (hf e he)
  | some e => exact ⟨e, List.mem_of_find?_eq_some hf, by have := List.find?_some hf; simpa using this, rfl⟩
theorem fE_snoc {E : List Pe} {e : Pe} (h : e.obj ∉ E.map (·.obj)) : fE (E ++ [e]) = fun u => if u = e.obj then some (stepV e) else fE E u := by
  funext u
  unfold fE
  rw [List.find?_append]
  by_cases hu : u = e.obj
  · subst hu
    have : E.find? (fun x => x.obj == e.obj) = none := by
      rw [List.find?_eq_none]
      intro x hx
      have := fun h2 : x.obj = e.obj => h (List.mem_map.2 ⟨x, hx, h2⟩)
      simpa using this
    simp [this]
  · rw [if_neg hu]
    have : List.find? (fun x => x.obj == u) [e] = none := by
      rw [List.find?_eq_none]
      intro x hx
      simp at hx; subst hx
      simpa using fun h => hu h.symm
    rw [this, Option.or_none]

def pmem (E : List Pe) (Bm bm Bl : Nat) (vl : Value) : List Ent :=
  [ebox Bm #[.map (some bm)] 69, gmap mapStep bm E.length (fE E), ebox Bl #[vl] 27, rowI 3 vl (E.map (·.obj))]

set_option maxRecDepth 100000 in
set_option maxHeartbeats 1000000 in
theorem ptake_any (B : Nat) (w0 w : World) (E : List Pe) (r : Bool) (n f b rt : Int) (wy : List Int) (Bm bm Bl : Nat) (vl : Value) (hn : i64ok n) (hE : E.length ≤ 1000) (R : List Ent) (hM : Mem B w0 w (pmem E Bm bm Bl vl ++ R)) :
    Calls Try.prog 69 #[.agg #[.bool r, .int .i64 n], .agg #[.int .i64 f, .int .i64 b], .pointer (some ⟨Bm, 0, none⟩), .pointer (some ⟨Bl, 0, none⟩)] w fun e w' => e = .returned (.tuple #[]) ∧
      ∃ vl', Mem B w0 w' (pmem (ptake E ⟨r, n⟩ f b rt wy) Bm bm Bl vl' ++ R) := by
  have hM1 : ∀ o o', Mem B w0 ((w.alloc o).alloc o') (pmem E Bm bm Bl vl ++ R) := fun o o' => (hM.alloc_ o).alloc_ o'
  have hz : Bm < w.heap.size := (hM.box 0 rfl).2.1
  have hz2 : Bl < w.heap.size := (hM.box 2 rfl).2.1
  have p0 : w.cell? ⟨Bm, 0, none⟩ = some (.map (some bm)) := by have := hM.cell 0 rfl 0; simpa using this
  have p1 : w.cell? ⟨Bl, 0, none⟩ = some vl := by have := hM.cell 2 rfl 0; simpa using this
  have HM := Lib.hid hM
  by_cases hin : n ∈ E.map (·.obj)
  · obtain ⟨e, he, heo, hf⟩ := fE_some hin
    have hl : ∀ o o', (Instr.lookup 69 (.map (some bm)) (.int .i64 n) true).run Try.prog ((w.alloc o).alloc o') = .ok (.tuple #[.agg #[.int .i64 e.frm, .int .i64 e.by_], .bool true]) ((w.alloc o).alloc o') := by
      intro o o'
      have := (gmap_look (M := mapStep) ((hM1 o o').get 1 rfl) (x := n) hn).2
      rw [hf] at this
      exact this
    have hpt : ptake E ⟨r, n⟩ f b rt wy = E := by unfold ptake; rw [if_neg (fun h => h.2 hin)]
    rw [hpt]
    clear hf hin hpt heo he hM1 hM
    cases r
    · go_enter Try.func69, Try.ntmps69
      go_wp2
      go_end0
      exact ⟨rfl, vl, ((HM.out.alloc_ _).alloc_ _).alloc_ _⟩
    · go_enter Try.func69, Try.ntmps69
      go_wp2
      go_end0
      exact ⟨rfl, vl, ((HM.out.alloc_ _).alloc_ _).alloc_ _⟩
  · have hf := fE_none hin
    have hl : ∀ o o', (Instr.lookup 69 (.map (some bm)) (.int .i64 n) true).run Try.prog ((w.alloc o).alloc o') = .ok (.tuple #[.agg #[.int .i64 0, .int .i64 0], .bool false]) ((w.alloc o).alloc o') := by
      intro o o'
      have := (gmap_look (M := mapStep) ((hM1 o o').get 1 rfl) (x := n) hn).2
      rw [hf] at this
      exact this
    cases r
    · have hpt : ptake E ⟨false, n⟩ f b rt wy = E := by unfold ptake; rw [if_neg (fun h => by cases h.1)]
      rw [hpt]
      clear hf hin hpt hM1 hM
      go_enter Try.func69, Try.ntmps69
      go_wp2
      go_end0
      exact ⟨rfl, vl, ((HM.out.alloc_ _).alloc_ _).alloc_ _⟩
    · have hpt : ptake E ⟨true, n⟩ f b rt wy = E ++ [⟨n, f, b, rt, wy⟩] := by unfold ptake; rw [if_pos ⟨rfl, hin⟩]
      have hsn := fE_snoc (e := ⟨n, f, b, rt, wy⟩) hin
      rw [hpt]
      have Hsn := Lib.hid hsn
      have hE2 : E.length ≤ 100000 := by omega
      have hE3 : (E.map (·.obj)).length ≤ 1000000 := by rw [List.length_map]; omega
      have HE2 := Lib.hid hE2
      have HE3 := Lib.hid hE3
      have p2 : ∀ o o' o'', (((w.alloc o).alloc o').alloc o'').cell? ⟨Bm, 0, none⟩ = some (.map (some bm)) := by
        intro o o' o''; have := (((hM.alloc_ o).alloc_ o').alloc_ o'').cell 0 rfl 0; simpa using this
      have HMv := Lib.hid (fun o' o'' => ((hM.alloc #[.bool true, .int .i64 n] 35).alloc_ o').alloc_ o'')
      clear hf hin hpt hM1 hM hsn hE2 hE3
      go_enter Try.func69, Try.ntmps69
      go_wp2_with (first
        | (at_mapUpdate; refine Mem.wp_putG (M := mapStep) rfl _ _ _ rfl (HMv.out _ _) 2 rfl HE2.out rfl n (.agg #[.int .i64 f, .int .i64 b]) rfl rfl hn ?_; intro w1 hM2 hs1
           have q0 : w1.cell? ⟨Bl, 0, none⟩ = some vl := by have := hM2.cell 3 rfl 0; simpa using this
           have q1 : w1.cell? ⟨w.heap.size, 1, none⟩ = some (.int .i64 n) := by have := hM2.cell 0 rfl 1; simpa using this
           have HM2 := Lib.hid hM2
           clear hM2)
        | (at_builtin; refine Mem.wp_appI elemInts rfl (.tmp 25) (.tmp 28) rfl HM2.out 4 rfl rfl _ n _ _ rfl (by simp) HE3.out ?_; intro ad n1 cp w2 hn1 hM3 hs2 hk2 ha2
           have u0 : w2.cell? ⟨Bl, 0, none⟩ = some vl := by have := hM3.cell 3 rfl 0; simpa using this
           have u1 : w2.frozen? ⟨Bl, 0, none⟩ = false := hM3.free 3 rfl 0
           have hM4 := hM3.setBox 3 rfl 0 (.slice ad n1 cp)
           have HM4 := Lib.hid hM4
           clear hM3 hM4 hk2 hn1))
      go_end0
      refine ⟨rfl, .slice ad n1 cp, ?_⟩
      unfold pmem
      rw [Hsn.out]
      exact (HM4.out.drop (L' := [_, _, _, _] ++ R) (List.sublist_cons_self _ _)).cast (by simp [stepV])

theorem PInv.le {g : G} {E : List Pe} {r : Int} {w : List Int} (h : PInv g E r w) : E.length ≤ g.objs.length := by
  have := nodup_sub_len (E.map (·.obj)) (idx g.objs.length) h.nodup (fun x hx => by obtain ⟨e, he, rfl⟩ := List.mem_map.1 hx; exact mem_idx.2 (h.rng e he))
  simpa [idx] using this
theorem PInv.ok {g : G} (hG : Good g) {E : List Pe} {r : Int} {w : List Int} (h : PInv g E r w) : ∀ x ∈ E.map (·.obj), i64ok x := by
  intro x hx
  obtain ⟨e, he, rfl⟩ := List.mem_map.1 hx
  have := h.rng e he
  have := hG.objs
  exact ⟨by omega, by omega⟩
theorem pAt_le {g : G} (hG : Good g) (k : Nat) (h : ∀ j, j < k → j < (pAt g j).length) : k ≤ (pAt g k).length := by
  cases k with
  | zero => exact Nat.zero_le _
  | succ k =>
    have hk := h k (by omega)
    have ih := pAt_inv hG k (fun j hj => h j (by omega))
    obtain ⟨x, hx⟩ := get_some _ _ hk
    have he : (pAt g k).getD k ⟨0, 0, 0, 0, []⟩ = x := getD_some hx
    obtain ⟨r, w, hi, hlt⟩ := ih.inv
    have hi0 : PInv g (pAt g k) x.root (x.way ++ [0]) := ⟨hi.nodup, hi.rng, hi.leads, hi.from_, hi.sorted, fun e he => klt_trans (hi.upper e he) (hlt x hx)⟩
    obtain ⟨_, _, _, _, _, h6⟩ := pvisit_inv hG hx hi0 ih.root ih.fld _ (Nat.le_refl (fieldsAt g x.obj).length)
    simp only [pAt]
    rw [he]
    omega

set_option maxRecDepth 100000 in
set_option maxHeartbeats 4000000 in
theorem first_any (g : G) (hG : Good g) (v : Value) (w : World) (hg : IsGraph w v g) :
    Calls Try.prog 43 #[v] w fun e w' => ∃ E bm, e = .returned (.map (some bm)) ∧ PathS g E ∧ Mem w.heap.size w w' [gmap mapStep bm E.length (fE E)] := by
  have Hg := Lib.hid hg
  obtain ⟨vo, vr, rfl, ho, hr⟩ := hg
  obtain ⟨ao, co, rfl, hlo⟩ := ho.slice
  obtain ⟨ar, cr, rfl, hlr⟩ := hr.slice
  have Ho := Lib.hid ho
  have Hr := Lib.hid hr
  clear ho hr
  have hmm := @run_makeMap Try.prog
  have hM0 := ((((Mem.start w).alloc #[.slice ao g.objs.length co, .slice ar g.roots.length cr] 25).newMapAt mapStep (w.heap.size + 1) (by simp)).allocAt (w.heap.size + 1 + 1) (by simp) #[.map (some (w.heap.size + 1))] 69).allocAt (w.heap.size + 1 + 1 + 1) (by simp) #[.slice none 0 0] 27
  have hM1 := (hM0.nilI 3).pick0 ([2, 3, 1, 0] ++ [4]) (A' := pmem [] (w.heap.size + 1 + 1) (w.heap.size + 1) (w.heap.size + 1 + 1 + 1) (.slice none 0 0) ++ [ebox w.heap.size #[.slice ao g.objs.length co, .slice ar g.roots.length cr] 25]) (by decide) rfl
  have HM1 := Lib.hid hM1
  clear hM0 hM1
  go_enter Try.func43, Try.ntmps43
  go_wp2
  go_loopw [16] (fun i wr => ∃ (k : Nat) (vl : Value), k ≤ g.roots.length ∧ i = .int .i64 k ∧ Mem w.heap.size w wr (pmem (proots g k) (w.heap.size + 1 + 1) (w.heap.size + 1) (w.heap.size + 1 + 1 + 1) vl ++ [ebox w.heap.size #[.slice ao g.objs.length co, .slice ar g.roots.length cr] 25])) (fun i _ => g.roots.length - (intOf i).toNat)
  case atStart => exact ⟨0, _, Nat.zero_le _, rfl, HM1.out⟩
  case round =>
    clear HM1
    obtain ⟨k, vl, hk, rfl, hM⟩ := hrel
    by_cases hlt : k < g.roots.length
    · obtain ⟨x, hx⟩ := get_some _ _ hlt
      obtain ⟨bx, ox, cap2, hv, hb, hn, c1, c2, hxi⟩ := Hr.out.at hM.below hx
      cases hv
      have hsucc : proots g (k + 1) = ptake (proots g k) ⟨x.ref, x.n⟩ (-1) k k [] := by simp only [proots]; rw [getD_some hx]
      have hle : (proots g k).length ≤ 1000 := by have := (proots_inv hG k (by omega)).1.le; have := hG.objs; omega
      have Hsucc := Lib.hid hsucc
      have HM := Lib.hid hM
      have Hle := Lib.hid hle
      have Hxi := Lib.hid hxi
      clear hM hx hsucc hle hxi
      go_wp2_with fail
      refine (ptake_any _ w _ (proots g k) x.ref x.n (-1) k k [] _ _ _ vl Hxi.out Hle.out _ (HM.out.alloc_ _)).mono ?_
      rintro e w1 ⟨rfl, vl1, hM1⟩
      rw [← Hsucc.out] at hM1
      go_wp2
      go_roundw
      case rel => exact ⟨k + 1, vl1, by omega, by go_num, hM1⟩
      case measure => simp [intOf]; omega
    · obtain rfl : k = g.roots.length := by omega
      have HM := Lib.hid hM
      clear hM
      go_wp2
      go_loopw [8] (fun i wr => ∃ (k : Nat) (vl : Value), (∀ j, j < k → j < (pAt g j).length) ∧ i = .int .i64 k ∧ Mem w.heap.size w wr (pmem (pAt g k) (w.heap.size + 1 + 1) (w.heap.size + 1) (w.heap.size + 1 + 1 + 1) vl ++ [ebox w.heap.size #[.slice ao g.objs.length co, .slice ar g.roots.length cr] 25])) (fun i _ => g.objs.length + 1 - (intOf i).toNat)
      case atStart => exact ⟨0, vl, fun j h => by omega, rfl, HM.out⟩
      case round =>
        clear HM
        obtain ⟨k, vl, hks, rfl, hM⟩ := hrel
        have hpa := pAt_inv hG k hks
        have hkle := pAt_le hG k hks
        obtain ⟨r0, w0, hi, hup⟩ := hpa.inv
        have hEn := hi.le
        have hn24 := hG.objs
        obtain ⟨E, hE⟩ : ∃ E, pAt g k = E := ⟨_, rfl⟩
        rw [hE] at hM hpa hkle hi hup hEn
        have hI : IsInts wr vl (E.map (·.obj)) := isInts_of_own (hM.ownI 3 rfl) (by rw [List.length_map]; omega) (hi.ok hG)
        obtain ⟨al, cl, rfl, _⟩ := hI.slice
        rw [List.length_map] at hM hI
        have p0 : wr.cell? ⟨w.heap.size + 1 + 1 + 1, 0, none⟩ = some (.slice al E.length cl) := by have := hM.cell 2 rfl 0; simpa using this
        have p1 : wr.cell? ⟨w.heap.size, 0, none⟩ = some (.slice ao g.objs.length co) := by have := hM.cell 4 rfl 0; simpa using this
        have p2 : wr.cell? ⟨w.heap.size + 1 + 1, 0, none⟩ = some (.map (some (w.heap.size + 1))) := by have := hM.cell 0 rfl 0; simpa using this
        have z0 : w.heap.size + 1 + 1 + 1 < wr.heap.size := (hM.box 2 rfl).2.1
        by_cases hlt : k < E.length
        · obtain ⟨x, hx⟩ := get_some _ _ hlt
          have hxo : (E.map (·.obj))[k]? = some x.obj := by rw [List.getElem?_map, hx]; rfl
          have hxr := hi.rng x (List.mem_of_getElem? hx)
          obtain ⟨i, hxi⟩ : ∃ i : Nat, x.obj = (i : Int) := ⟨x.obj.toNat, by omega⟩
          have hig : i < g.objs.length := by omega
          obtain ⟨ob, hob⟩ := get_some _ _ hig
          have hfa : fieldsAt g x.obj = ob := by unfold fieldsAt; rw [hxi, Int.toNat_natCast, getD_some hob]
          have hob4 := hG.fields ob (List.mem_of_getElem? hob)
          obtain ⟨bl, ol, cap1, hv, _, _, c1, _⟩ := hI.at (Below.refl _ _) hxo
          rw [List.length_map] at hv
          cases hv
          rw [hxi] at c1
          obtain ⟨bo, oo, cap3, uo, hv2, hbo, hn3, c2, huo⟩ := Ho.out.at hM.below hob
          cases hv2
          obtain ⟨af, cf, rfl, hlf⟩ := huo.slice
          have hi0 : PInv g E x.root (x.way ++ [0]) := ⟨hi.nodup, hi.rng, hi.leads, hi.from_, hi.sorted, fun e he => klt_trans (hi.upper e he) (hup x hx)⟩
          have hpv := fun m hm => pvisit_inv hG hx hi0 hpa.root hpa.fld m hm
          rw [hfa] at hpv
          have hnext : pAt g (k + 1) = pvisit g E x ob.length := by
            show pvisit g (pAt g k) ((pAt g k).getD k ⟨0, 0, 0, 0, []⟩) (fieldsAt g ((pAt g k).getD k ⟨0, 0, 0, 0, []⟩).obj).length = _
            rw [hE, getD_some hx, hfa]
          have HM := Lib.hid hM
          have Hx := Lib.hid hx
          have Huo := Lib.hid huo
          have Hpv := Lib.hid hpv
          have Hnext := Lib.hid hnext
          have Hfa := Lib.hid hfa
          have Hxi := Lib.hid hxi
          have HEE := Lib.hid hE
          have Hks := Lib.hid hks
          clear hM hI hi hup hpa hx hxo hxr hxi hob hfa huo hi0 hpv hnext hE hks
          go_wp2
          go_quiet (fail)
          go_wp2
          have HM2 := Lib.hid (HM.out.drewN nq)
          clear HM p0 p1 p2
          go_loopw [43] (fun i wr => ∃ (m : Nat) (vl : Value), m ≤ ob.length ∧ i = .int .i64 m ∧ Mem w.heap.size w wr (pmem (pvisit g E x m) (w.heap.size + 1 + 1) (w.heap.size + 1) (w.heap.size + 1 + 1 + 1) vl ++ [ebox w.heap.size #[.slice (some ⟨bo, oo, none⟩) g.objs.length co, .slice ar g.roots.length cr] 25])) (fun i _ => ob.length - (intOf i).toNat)
          case atStart => exact ⟨0, _, Nat.zero_le _, rfl, HM2.out⟩
          case round =>
            clear HM2
            obtain ⟨m, vl, hm, rfl, hM⟩ := hrel
            by_cases hlt2 : m < ob.length
            · obtain ⟨y, hy⟩ := get_some _ _ hlt2
              obtain ⟨by_, oy, cap4, hv, hb4, hn4, d1, d2, hyi⟩ := Huo.out.at hM.below hy
              cases hv
              obtain ⟨hpi, _, _, _, hget, hmono⟩ := Hpv.out m (by omega)
              have hE'n := hpi.le
              have hsucc : pvisit g E x (m + 1) = ptake (pvisit g E x m) ⟨y.ref, y.n⟩ i m x.root (x.way ++ [(m : Int)]) := by
                simp only [pvisit]; rw [Hfa.out, getD_some hy, Hxi.out]
              have hxk := hget k x Hx.out
              obtain ⟨E', hE'⟩ : ∃ E', pvisit g E x m = E' := ⟨_, rfl⟩
              rw [hE'] at hM hpi hE'n hsucc hxk hmono
              have hxo : (E'.map (·.obj))[k]? = some (i : Int) := by rw [List.getElem?_map, hxk, ← Hxi.out]; rfl
              have hI : IsInts wr vl (E'.map (·.obj)) := isInts_of_own (hM.ownI 3 rfl) (by rw [List.length_map]; omega) (hpi.ok hG)
              have hkE : k < E'.length := by omega
              obtain ⟨b5, o5, cap5, hv, _, z5, g1, _⟩ := hI.at (Below.refl _ _) hxo
              rw [List.length_map] at hv
              subst hv
              have q0 : wr.cell? ⟨w.heap.size + 1 + 1 + 1, 0, none⟩ = some (.slice (some ⟨b5, o5, none⟩) E'.length cap5) := by have := hM.cell 2 rfl 0; simpa using this
              have z1 : w.heap.size + 1 + 1 + 1 < wr.heap.size := (hM.box 2 rfl).2.1
              have hE1000 : E'.length ≤ 1000 := by omega
              have hMv := hM.alloc #[.bool y.ref, .int .i64 y.n] 35
              obtain ⟨e0, e1⟩ := hMv.cells2 0 rfl
              have e2 : (wr.alloc (.cells #[.bool y.ref, .int .i64 y.n] 35)).cell? ⟨w.heap.size + 1 + 1 + 1, 0, none⟩ = some (.slice (some ⟨b5, o5, none⟩) E'.length cap5) := by have := hMv.cell 3 rfl 0; simpa using this
              have e3 : (wr.alloc (.cells #[.bool y.ref, .int .i64 y.n] 35)).cell? ⟨b5, o5 + k, none⟩ = some (.int .i64 i) := (((Below.refl _ wr).alloc (Nat.le_refl _) _).cell (p := ⟨_, _, none⟩) z5).trans g1
              have HM := Lib.hid hMv
              have Hsucc := Lib.hid hsucc
              have Hyi := Lib.hid hyi
              have HE1000 := Lib.hid hE1000
              clear hM hy hyi hpi hget hE'n hsucc hxk hE' hxo hI hE1000 hmono hMv
              go_wp2
              obtain ⟨W, hW⟩ : ∃ W, wr.alloc (.cells #[.bool y.ref, .int .i64 y.n] 35) = W := ⟨_, rfl⟩
              rw [hW] at HM e0 e1 e2 e3 ⊢
              clear hW
              go_still_tail 8, (by kernel_rfl)
              go_wp2_with fail
              refine (ptake_any _ w _ E' y.ref y.n i m x.root (x.way ++ [(m : Int)]) _ _ _ _ Hyi.out HE1000.out _ ((HM.out.drop (List.sublist_cons_self _ _)).drew)).mono ?_
              rintro e w3 ⟨rfl, vl3, hM3⟩
              rw [← Hsucc.out] at hM3
              have HM3 := Lib.hid hM3
              clear hM3
              go_wp2
              go_roundw
              case rel => exact ⟨m + 1, vl3, by omega, by go_num, HM3.out⟩
              case measure => simp [intOf]; omega
            · obtain rfl : m = ob.length := by omega
              go_wp2
              go_roundw
              case rel =>
                refine ⟨k + 1, vl, ?_, by go_num, by rw [Hnext.out]; exact hM⟩
                intro j hj
                rcases Nat.lt_or_ge j k with h1 | h1
                · exact Hks.out j h1
                · obtain rfl : j = k := by omega
                  rw [HEE.out]; exact hlt
              case measure => simp [intOf]; omega
        · obtain rfl : k = E.length := by omega
          have HM := Lib.hid hM
          clear hM hI hpa hi hup
          go_wp2
          go_ret
          exact ⟨E, _, rfl, ⟨_, hE, rfl, hks⟩, HM.out.pick0 [1] (by decide) rfl⟩
end Go.Proofs.Ytjeaaiklbefmmaa
