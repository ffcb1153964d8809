/- Texts Gka Gkb Gkc Gkd in one. -/
import Derived.Test.YtmmcjjklmcfegaaBase16
import Derived.Test.YtmmcjjklmcfegaaGtv
import Derived.Test.YtmmcjjklmcfegaaQ4
import Derived.Test.YtmmcjjklmcfegaaTy
import Derived.Laws.EntriesVeiled
import Derived.Test.YtmmcjjklmcfegaaBase14
import Derived.Test.YtmmcjjklmcfegaaQ0
import Derived.BigQuiet
/- A memory with young and old: what it holds; keep, walked. -/
namespace Go.Proofs.Ytmmcjjklmcfegaa
open Go.RowKit Go.Shelf
attribute [local go_sem] Oper.semAt_some

/-- A row of bools. -/
def rowK (v : Value) (K : List Bool) : Ent := erow 4 1 v K.length (K.map .bool)
theorem rowK_calm (B : Nat) (v : Value) (K : List Bool) : (rowK v K).Calm B := erow_calm B _ 1 v _ _
theorem Mem.boolK {B : Nat} {w0 w : World} {L : List Ent} (h : Mem B w0 w L) (k : Nat) {v : Value} {K : List Bool} (hk : L[k]? = some (rowK v K)) {j : Nat} {x : Bool} (hx : K[j]? = some x) :
    ∃ g cap, v = .slice (some ⟨g, 0, none⟩) K.length cap ∧ w.cell? ⟨g, j, none⟩ = some (.bool x) ∧ w.frozen? ⟨g, j, none⟩ = false ∧ g < w.heap.size := by
  have hr : w.ownsRow B 4 1 v K.length (K.map .bool) := h.row k hk
  have hj : j < K.length := (List.getElem?_eq_some_iff.1 hx).1
  rcases hr.2 with ⟨_, h1⟩ | ⟨g, cap', cur, hv, hB, hg, _⟩
  · omega
  · cases hv
    refine ⟨g, cap', rfl, ?_, hr.frozenAt j, (Array.getElem?_eq_some_iff.1 hg).1⟩
    rw [hr.cellAt j (by omega)]
    simp [hx]
theorem Mem.sliceK {B : Nat} {w0 w : World} {L : List Ent} (h : Mem B w0 w L) (k : Nat) {v : Value} {K : List Bool} (hk : L[k]? = some (rowK v K)) : ∃ a cap, v = .slice a K.length cap := by
  have hr : w.ownsRow B 4 1 v K.length (K.map .bool) := h.row k hk
  rcases hr.2 with ⟨rfl, h1⟩ | ⟨g, cap', cur, hv, hB, hg, _⟩
  · exact ⟨none, 0, by rw [h1]⟩
  · exact ⟨_, _, hv⟩
theorem Mem.setK {B : Nat} {w0 w : World} {L : List Ent} (h : Mem B w0 w L) (k : Nat) {b n cap : Nat} {K : List Bool} (hk : L[k]? = some (rowK (.slice (some ⟨b, 0, none⟩) n cap) K)) (hn : K.length = n) (j : Nat) (x : Bool) :
    Mem B w0 (w.setCell ⟨b, j, none⟩ (.bool x)) (L.set k (rowK (.slice (some ⟨b, 0, none⟩) n cap) (K.set j x))) := by
  subst hn
  exact (h.setRow k hk j (.bool x)).cast (by simp [rowK, List.map_set])
theorem cntF_mono : ∀ (K K' : List Bool), K'.length = K.length → (∀ i : Nat, K[i]? = some true → K'[i]? = some true) → K'.count false ≤ K.count false
  | [], [], _, _ => Nat.le_refl _
  | [], _ :: _, h, _ => by simp at h
  | _ :: _, [], h, _ => by simp at h
  | a :: K, b :: K', h, hs => by
    have ih := cntF_mono K K' (by simpa using h) (fun i hi => by simpa using hs (i + 1) (by simpa using hi))
    have h0 := hs 0
    cases a with
    | false => cases b <;> simp <;> omega
    | true =>
      have hb : b = true := by simpa using h0 rfl
      subst hb
      simpa using ih
theorem oA_get {o : List Bool} {i : Nat} : oA o (i : Int) = true ↔ o[i]? = some true := by
  unfold oA
  rw [Int.toNat_natCast, List.getD_eq_getElem?_getD]
  cases h : o[i]? with
  | none => simp
  | some b => simp
theorem KeepR.cnt {os : Os} {S : V → Prop} {o o' : List Bool} (h : KeepR os S o o') : o'.count false ≤ o.count false :=
  cntF_mono o o' h.len fun i hi => oA_get.1 (h.mono i (oA_get.2 hi))
theorem cntF_set (K : List Bool) {i : Nat} (hi : K[i]? = some false) : (K.set i true).count false + 1 = K.count false := by
  obtain ⟨hl, he⟩ := List.getElem?_eq_some_iff.1 hi
  rw [List.count_set hl, he]
  have : 0 < K.count false := List.count_pos_iff.2 (List.mem_of_getElem? hi)
  simp; omega
theorem KeepR.refs {os : Os} {S T : V → Prop} {o o' : List Bool} (h : KeepR os S o o') (e : ∀ v, v.ref = true → (S v ↔ T v)) : KeepR os T o o' :=
  ⟨h.len, h.mono, fun i hi ho => (h.sound i hi ho).imp_right fun hy => hy.mono (fun _ h => h) fun v hv hr ho => .root ((e v hr).1 hv) hr ho, fun v hv hr => h.root v ((e v hr).2 hv) hr, h.closed⟩

def inT (l : List Int) (v : V) : Prop := v.ref = true ∧ v.n ∈ l
/-- The machine's box, the memory's, the objects' row, who is old. -/
@[reducible] def gA (bx : Nat) (regs : List V) (mv : Value) (bm : Nat) (room : Int) (vo : Value) (cs : List (Option Oc)) (vm : Value) (em : Ent) (vK : Value) (K : List Bool) : List Ent :=
  [mbox bx regs mv, ebox bm #[vo, .pointer (some ⟨bx, 0, none⟩), vK, vm, .int .i64 room] 122, rowP vo cs, rowK vK K, em]
theorem idx_tail (A : List Ent) (cs : List (Option Oc)) (x : Ent) (T : List Ent) : (A ++ (objsE cs ++ x :: T))[A.length + (cs.length + cs.length)]? = some x := by
  rw [List.getElem?_append_right (by omega), show A.length + (cs.length + cs.length) - A.length = cs.length + cs.length by omega, List.getElem?_append_right (by rw [objsE_len]; omega)]
  have : cs.length + cs.length - (objsE cs).length = 0 := by rw [objsE_len]; omega
  rw [this]; rfl
theorem Mem.toTail {B : Nat} {w0 w : World} {x : Ent} {A O T : List Ent} (h : Mem B w0 w (x :: (A ++ (O ++ T)))) : Mem B w0 w (A ++ (O ++ x :: T)) := h.perm (by
  rw [← List.append_assoc, ← List.append_assoc]
  exact List.perm_middle)
section
variable (B : Nat) (w0 : World) (bx : Nat) (regs : List V) (mv : Value) (bm : Nat) (room : Int) (vo : Value) (cs : List (Option Oc)) (vm : Value) (em : Ent)
def gM (vK : Value) (K : List Bool) (T : List Ent) (w : World) : Prop := Mem B w0 w (gA bx regs mv bm room vo cs vm em vK K ++ (objsE cs ++ T))
/-- What is so of the objects while some are kept. -/
structure ObK : Prop where
  clo : ∀ i, Lives (conts cs) i → ∀ v ∈ objAt (conts cs) i, v.ref = true → Lives (conts cs) v.n
  val : ∀ (i : Nat) (l : List V), (conts cs)[i]? = some (some l) → l.length ≤ 1000 ∧ ∀ v ∈ l, i64ok v.n
def KeepC (m : Nat) : Prop := ∀ (T : List Ent) (vK : Value) (K : List Bool) (w : World) (u : Value) (vs : List V), K.length = cs.length → K.count false ≤ m →
  (∀ K' W, K'.length = cs.length → gM B w0 bx regs mv bm room vo cs vm em vK K' T W → IsVals W u vs) → (∀ v ∈ vs, v.ref = true → Lives (conts cs) v.n) → gM B w0 bx regs mv bm room vo cs vm em vK K T w →
  CallsIn Fence.wide 10 Try.prog 81 #[.pointer (some ⟨bm, 0, none⟩), u] w fun e w' => e = .returned (.tuple #[]) ∧ ∃ K', KeepR (conts cs) (fun v => v ∈ vs) K K' ∧ gM B w0 bx regs mv bm room vo cs vm em vK K' T w' ∧ KeepsOthers w w'
set_option maxRecDepth 100000 in
set_option maxHeartbeats 4000000 in
theorem keep_step (hO : ObK cs) (m : Nat) (ih : ∀ m', m' < m → KeepC B w0 bx regs mv bm room vo cs vm em m') : KeepC B w0 bx regs mv bm room vo cs vm em m := by
  intro T vK K w u vs hKl hm hV hlv hM
  obtain ⟨au, cu, rfl, hlu⟩ := (hV K w hKl hM).slice
  have hMa : Mem B w0 (w.alloc (.cells #[.pointer (some ⟨bm, 0, none⟩)] 117)) (gA bx regs mv bm room vo cs vm em vK K ++ (objsE cs ++ (ebox w.heap.size #[.pointer (some ⟨bm, 0, none⟩)] 117 :: T))) := (hM.alloc #[.pointer (some ⟨bm, 0, none⟩)] 117).toTail
  obtain ⟨bb, hbb⟩ : ∃ bb, w.heap.size = bb := ⟨_, rfl⟩
  have hka : KeepsOthers w (w.alloc (.cells #[.pointer (some ⟨bm, 0, none⟩)] 117)) := KeepsOthers.alloc _ _
  obtain ⟨T1, hT1⟩ : ∃ T1, ebox bb #[.pointer (some ⟨bm, 0, none⟩)] 117 :: T = T1 := ⟨_, rfl⟩
  rw [hbb, hT1] at hMa
  have hdr : ∀ K' W, gM B w0 bx regs mv bm room vo cs vm em vK K' T1 W → gM B w0 bx regs mv bm room vo cs vm em vK K' T W := by
    intro K' W h
    rw [← hT1] at h
    exact h.drop (List.Sublist.append_left (List.Sublist.append_left (List.sublist_cons_self _ _) _) _)
  have hV1 : ∀ K' W, K'.length = cs.length → gM B w0 bx regs mv bm room vo cs vm em vK K' T1 W → IsVals W (.slice au vs.length cu) vs := fun K' W h1 h2 => hV K' W h1 (hdr K' W h2)
  have Hih := Lib.hid ih
  have HO := Lib.hid hO
  have HV1 := Lib.hid hV1
  have Hdr := Lib.hid hdr
  have Hlv := Lib.hid hlv
  have Hm := Lib.hid hm
  have HKl := Lib.hid hKl
  have HMa := Lib.hid hMa
  have Hka := Lib.hid hka
  have Hbb := Lib.hid hbb
  have HT1 := Lib.hid hT1
  clear ih hO hV hV1 hlv hM hMa hka hT1 hm hKl hdr
  refine callsIn_of_wp_marks Try.func81 rfl trivial ?_ rfl
  simp only [Try.ntmps81, List.size_toArray, List.length_cons, List.length_nil, Nat.reduceAdd, Nat.reduceSub, Array.replicate_succ, Array.replicate_zero, List.push_toArray, List.append_toArray, List.nil_append, List.cons_append]
  gi_wp2_with fail
  refine ⟨trivial, (targets_opaque _ _ _ _ _).mono ?_⟩
  rintro e w3 ⟨Bs, rfl, hb3, hBs, hcs⟩
  have hM1 := HMa.out.call hb3
  have hko3 : KeepsOthers w w3 := Hka.out.trans ⟨hb3.size, fun k _ hk _ => (hb3.block k (Array.getElem?_eq_some_iff.1 hk).1).trans hk⟩
  have Hko3 := Lib.hid hko3
  clear hko3 hb3
  have hvals := HV1.out K w3 HKl.out hM1
  have hcalm : ∀ x ∈ gA bx regs mv bm room vo cs vm em vK K ++ (objsE cs ++ T1), x.Calm w3.heap.size := calm_of hM1 fun x hx => hx
  have hcalm2 : ∀ K', ∀ x ∈ gA bx regs mv bm room vo cs vm em vK K' ++ (objsE cs ++ T1), x.Calm w3.heap.size := by
    intro K' x hx
    rcases List.mem_append.1 hx with hx | hx
    · simp only [gA, List.mem_cons, List.not_mem_nil, or_false] at hx
      rcases hx with rfl | rfl | rfl | rfl | rfl
      · exact ebox_calm _ _ _ _
      · exact ebox_calm _ _ _ _
      · exact erow_calm _ _ _ _ _ _
      · exact rowK_calm _ _ _
      · exact hcalm _ (by simp)
    · exact hcalm x (List.mem_append_right _ hx)
  clear hcalm
  have Hcalm := Lib.hid hcalm2
  clear hcalm2
  have hst0 : KeepR (conts cs) (inT (([] : List (Tg vs)).map (·.1))) K K := (KeepR.nil (conts cs) K).refs fun v _ => by simp [inT]
  have hidx : ∀ K', (gA bx regs mv bm room vo cs vm em vK K' ++ (objsE cs ++ T1))[5 + (cs.length + cs.length)]? = some (ebox bb #[.pointer (some ⟨bm, 0, none⟩)] 117) := fun K' => by
    rw [← HT1.out]; exact idx_tail _ cs _ T
  have Hidx := Lib.hid hidx
  clear hidx
  gi_wp2
  refine range_slotV (by omega) (gf := 114) (lb := #[.pointer (some ⟨Bs, 0, none⟩)]) rfl (enters_of Try.func114 (by kernel_rfl) rfl)
    (targets_stopsV _ (by omega) Bs vs _ w3 hvals hBs hcs)
    (fun pre W => ∃ K1, KeepR (conts cs) (inT (pre.map (·.1))) K K1 ∧ KeepsOthers w W ∧ gM B w0 bx regs mv bm room vo cs vm em vK K1 T1 W)
    (fun _ _ _ => False) ?own (fun _ => ownFrom_false _) ⟨K, hst0, Hko3.out, hM1⟩ 4 (fun x => .int .i64 x.1) ?assign ?body ?done ?stop
  case own =>
    refine ownFrom_ex fun K1 => ownFrom_and (p := fun pre : List (Tg vs) => KeepR (conts cs) (inT (pre.map (·.1))) K K1) ?_
    intro s W W' row hs hg hr
    refine ⟨ownFrom_keeps (β := Unit) (B := w3.heap.size) Hko3.out.size () W W' row hs.1 hg hr, ?_⟩
    exact ownFrom_mem (β := Unit) (fun _ => gA bx regs mv bm room vo cs vm em vK K1 ++ (objsE cs ++ T1)) hM1.base (fun _ => Hcalm.out K1) () W W' row hs.2 hg hr
  case assign =>
    intro l x W Kk hK
    simp only [laid]
    gi_wp2
    exact hK
  case stop => rintro D c pre W hD hpre hf hK; exact hf.elim
  case body =>
    rintro lb pre ⟨x, hx⟩ W hsz ⟨K1, hS, hko, hM⟩ hlen
    have hxv := mem_of_target hx
    have hlx := Hlv.out _ hxv rfl
    obtain ⟨i, rfl⟩ : ∃ i : Nat, x = (i : Int) := ⟨x.toNat, by have h0 : (0 : Int) ≤ x := hlx.1; omega⟩
    have hi : i < cs.length := by have h1 := hlx.lt; rw [conts_len] at h1; simpa using h1
    have hK1 : K1.length = cs.length := by rw [hS.len, HKl.out]
    obtain ⟨b, hb⟩ := get_some K1 i (by omega)
    obtain ⟨gK, capK, hvK, c4, f4, z4⟩ := hM.boolK 3 rfl hb
    subst hvK
    have q0 : W.cell? ⟨bb, 0, none⟩ = some (.pointer (some ⟨bm, 0, none⟩)) := by have := hM.cell _ (Hidx.out K1) 0; simpa using this
    have qb : bb < W.heap.size := (hM.box _ (Hidx.out K1)).2.1
    have m2 : W.cell? ⟨bm, 2, none⟩ = some (.slice (some ⟨gK, 0, none⟩) K1.length capK) := hM.cell 1 rfl 2
    have mb : bm < W.heap.size := (hM.box 1 rfl).2.1
    obtain ⟨pl, hpl⟩ : ∃ pl : List Int, pre.map (·.1) = pl := ⟨_, rfl⟩
    rw [hpl] at hS
    have Hpl := Lib.hid hpl
    have HM := Lib.hid hM
    have HS := Lib.hid hS
    have Hb := Lib.hid hb
    have HK1 := Lib.hid hK1
    have Hko := Lib.hid hko
    have Hlx := Lib.hid hlx
    have ei : (i : Int) < (K1.length : Int) := by omega
    have hadd : ∀ K2, KeepR (conts cs) (fun u => inT pl u ∨ u = ⟨true, (i : Int)⟩) K K2 → KeepR (conts cs) (inT ((pre ++ [(⟨(i : Int), hx⟩ : Tg vs)]).map (·.1))) K K2 := by
      intro K2 h
      refine h.refs fun v hr => ?_
      rw [List.map_append, Hpl.out]
      simp only [inT, List.map_cons, List.map_nil, List.mem_append, List.mem_singleton]
      constructor
      · rintro (⟨_, h1⟩ | rfl)
        · exact ⟨hr, .inl h1⟩
        · exact ⟨rfl, .inr rfl⟩
      · rintro ⟨_, h1 | h1⟩
        · exact .inl ⟨hr, h1⟩
        · right
          obtain ⟨r, n⟩ := v
          simp only at hr h1
          rw [hr, h1]
    have Hadd := Lib.hid hadd
    clear hpl hS hM hxv hlen hsz hb hK1 hko hlx hadd
    simp only [laid]
    cases b with
    | true =>
      have Hs2 := Lib.hid (HS.out.skip (v := ⟨true, (i : Int)⟩) (fun _ => oA_get.2 Hb.out))
      gi_wp2
      exact ⟨KeepsFrom.refl _ _, fun hv => hv, K1, Hadd.out _ Hs2.out, Hko.out, HM.out⟩
    | false =>
      have hM2 : gM B w0 bx regs mv bm room vo cs vm em (.slice (some ⟨gK, 0, none⟩) K1.length capK) (K1.set i true) T1 (W.setCell ⟨gK, i, none⟩ (.bool true)) := (HM.out.setK 3 rfl rfl i true).cast rfl
      obtain ⟨W2, hW2⟩ : ∃ W2, W.setCell ⟨gK, i, none⟩ (.bool true) = W2 := ⟨_, rfl⟩
      have hkW : KeepsOthers W (W.setCell ⟨gK, i, none⟩ (.bool true)) := KeepsOthers.setCell W _ _
      have HkW := Lib.hid hkW
      rw [hW2] at hM2 HkW
      have HW2 := Lib.hid hW2
      clear hW2 hkW
      have hob := Hlx.out.obj
      rw [Int.toNat_natCast] at hob
      obtain ⟨o, ho, hol⟩ := conts_get hob
      have O := oAt_of (A := gA bx regs mv bm room vo cs vm em (.slice (some ⟨gK, 0, none⟩) K1.length capK) (K1.set i true)) (kp := 2) (vo := vo) (cs := cs) (R := T1) rfl
      have hM2m : Mem B w0 W2 (gA bx regs mv bm room vo cs vm em (.slice (some ⟨gK, 0, none⟩) K1.length capK) (K1.set i true) ++ (objsE cs ++ T1)) := hM2
      obtain ⟨g, cap, hvo, p0, p1, p2⟩ := hM2m.ptrAt O ho
      obtain ⟨q3, q4, ao, co, hov⟩ := hM2m.objAt O ho
      have r0 : W2.cell? ⟨bb, 0, none⟩ = some (.pointer (some ⟨bm, 0, none⟩)) := by have := hM2m.cell _ (Hidx.out (K1.set i true)) 0; simpa using this
      have r1 : bb < W2.heap.size := (hM2m.box _ (Hidx.out (K1.set i true))).2.1
      have r2 : W2.cell? ⟨bm, 0, none⟩ = some vo := hM2m.cell 1 rfl 0
      have r3 : bm < W2.heap.size := (hM2m.box 1 rfl).2.1
      rw [hvo] at r2
      rw [hov] at q3
      unfold ptrO at p0
      simp only at p0
      have e2 : (i : Int) < (cs.length : Int) := by omega
      have hob2 := HO.out.val i _ hob
      have hK2 : (K1.set i true).length = cs.length := by rw [List.length_set]; exact HK1.out
      have hc1 := cntF_set K1 Hb.out
      have hc3 := HS.out.cnt
      have hlt : (K1.set i true).count false < m := by have := Hm.out; omega
      have hoA : objAt (conts cs) (i : Int) = o.l := by rw [hol]
      have hcall := Hih.out _ hlt T1 (.slice (some ⟨gK, 0, none⟩) K1.length capK) (K1.set i true) W2.drew o.v o.l hK2 (Nat.le_refl _) (fun K' W' hK' hM' => by
        have O' := oAt_of (A := gA bx regs mv bm room vo cs vm em (.slice (some ⟨gK, 0, none⟩) K1.length capK) K') (kp := 2) (vo := vo) (cs := cs) (R := T1) rfl
        have hr' := O'.r i _ ho
        exact Mem.isVals hM' _ hr' (by rw [hol]; have := hob2.1; omega) (fun x hx => hob2.2 x (by rw [← hol]; exact hx))) (fun v hv hr => HO.out.clo _ Hlx.out v (by rw [hoA]; exact hv) hr) (Mem.drew hM2m)
      rw [hov] at hcall
      have Hcall := Lib.hid (callsIn_wide.1 hcall)
      have HoA := Lib.hid hoA
      clear hM2 hM2m hvo hov hob ho O hob2 hK2 hc1 hc3 hlt hcall hoA hol
      gi_wp2
      rw [HW2.out]
      refine region_round_tail 11 (by kernel_rfl) (by kernel_rfl) (by kernel_rfl) (by rintro ⟨a, w, h⟩; exact h) ?_
      simp only [List.take_succ_cons, List.take_zero, List.drop_succ_cons, List.drop_zero]
      repeat still_step
      try refine wpStill_nil ?_
      go_wp2_with fail
      refine Hcall.out.mono ?_
      rintro e w5 ⟨rfl, K3, hR3, hM3, hk3⟩
      have hR4 := HS.out.one (v := ⟨true, (i : Int)⟩) rfl (by simp) (by rw [HKl.out]; simpa using e2) (bool_no fun h => by have h1 := oA_get.1 h; rw [Hb.out] at h1; cases h1) (by rw [HoA.out]; exact hR3)
      have hk4 := (HkW.out.trans (KeepsOthers.drew _)).trans hk3
      have HR4 := Lib.hid hR4
      have HM3 := Lib.hid hM3
      have Hk4 := Lib.hid hk4
      have hK3 : K3.length = cs.length := by rw [hR4.len]; exact HKl.out
      have HK3 := Lib.hid hK3
      clear hR3 hM3 hk3 hR4 hk4 hK3
      gi_wp2
      exact ⟨Hk4.out.from _, fun _ => HV1.out K3 _ HK3.out HM3.out, K3, Hadd.out _ HR4.out, Hko.out.trans Hk4.out, HM3.out⟩
  case done =>
    rintro D1 xs W hD1 hxs ⟨K1, hS, hko, hM⟩ hK1
    have hbig : w.heap.size ≤ D1 := Nat.le_trans Hko3.out.size hD1
    have hM7 := Mem.addDef' hM (D := D1) (Nat.le_trans hM1.base hD1) hK1 (fun x hx => (fun W' B0 hok b hb => by
      rcases Hcalm.out K1 x hx W' B0 hok b hb with h1 | h1
      · exact .inl (Nat.lt_of_lt_of_le h1 hD1)
      · exact .inr h1))
    have hS2 : KeepR (conts cs) (fun v => v ∈ vs) K K1 := hS.refs fun v hr => by
      rw [hxs]
      unfold inT
      rw [mem_targets_iff']
      constructor
      · rintro ⟨_, u, hu, hur, hun⟩
        obtain ⟨r, n⟩ := v
        obtain ⟨r', n'⟩ := u
        simp only at hr hur hun
        subst hr hur hun; exact hu
      · intro hv
        exact ⟨hr, v, hv, hr, rfl⟩
    have HM7 := Lib.hid hM7
    have HS2 := Lib.hid hS2
    have Hko4 := Lib.hid hko
    clear hM hM7 hS hS2 hxs hK1 hko
    gi_wp2
    refine leaves_marks2 (v := .tuple #[]) [D1] _ HM7.out Hko4.out (by intro D hD; simp at hD; subst hD; exact hbig) ?_
    intro W' hM8 hko8
    exact ⟨by simp [results, Try.results81, go_sem], rfl, K1, HS2.out, Hdr.out _ _ hM8, hko8⟩
theorem keep_all (hO : ObK cs) : ∀ m, KeepC B w0 bx regs mv bm room vo cs vm em m := fun m => by
  induction m using Nat.strongRecOn with
  | _ m ih => exact keep_step B w0 bx regs mv bm room vo cs vm em hO m ih
end
end Go.Proofs.Ytmmcjjklmcfegaa

/- heap.Objects.Reached, walked. -/
namespace Go.Proofs.Ytmmcjjklmcfegaa
open Go.RowKit Go.Shelf
attribute [local go_sem] Oper.semAt_some

theorem elemFlagsK : Elem Try.prog 118 4 1 1 (.bool false) := ⟨by kernel_rfl, info_parts (by kernel_rfl), rfl, by decide⟩
section
variable {P : Program} {B : Nat} {w0 w : World} {L : List Ent}
theorem Mem.wp_makeK (T : Elem P 118 4 1 1 (.bool false)) {ops : Array Oper} {rest : List Oper} {o : Oper} {a : Act} {Q : Exit → Act → World → Prop} (hgd : o.guard = none) (l c : Operand) (hop : o.op = Op.makeSlice 118 l c)
    (h : Mem B w0 w L) (X Y : Int) (m : Nat) (hl : a.eval l = .int .i64 X) (hc : a.eval c = .int .i64 Y) (hX : X = (m : Int)) (hY : Y = (m : Int)) (hm : m ≤ 1000)
    (hK : ∀ w', Mem B w0 w' (rowK (.slice (some ⟨w.heap.size, 0, none⟩) m m) (List.replicate m false) :: L) → Below w.heap.size w w' → wpList P ops Q rest (a.put o.dst (.slice (some ⟨w.heap.size, 0, none⟩) m m)) w') :
    wpList P ops Q (o :: rest) a w := by
  obtain ⟨i, hi, hz, hs, hb⟩ := T.info
  exact wpList_make_full w hgd l c 118 hop w.heap.size 4 i _ 1 T.under hi hz hs .i64 .i64 X Y m hl hc hX hY (by rw [hb]; omega) (by simp [maxLen]; omega) (Nat.le_refl _) (fun w' h1 h2 => hK w' (by
    have h1b : w'.ownsRow w.heap.size 4 1 (.slice (some ⟨w.heap.size, 0, none⟩) m m) m (madeCells #[.bool false] (m * 1)).toList := h1
    rw [Nat.mul_one, toList_madeCells_one] at h1b
    exact (h.callRow (grown_below h2) h1b).cast (by simp [rowK])) (grown_below h2))
end
@[reducible] def rchF (bs bw bl : Nat) : Value := .func (.func 101) #[] #[.pointer (some ⟨bs, 0, none⟩), .pointer (some ⟨bw, 0, none⟩), .pointer (some ⟨bl, 0, none⟩)]
section
variable (B : Nat) (w0 : World) (L : List Ent) (kp k0 : Nat) (vo : Value) (cs : List (Option Oc)) (W0 : World) (bs bw bl : Nat) (vK : Value)
@[reducible] def rchA (K : List Bool) : List Ent := [ebox bs #[vK] 118, rowK vK K, ebox bw #[rchF bs bw bl] 157, ebox bl #[vo] 74]
def RchC (m : Nat) : Prop := ∀ (K : List Bool) (w : World) (u : Value) (vs : List V), K.length = cs.length → K.count false ≤ m → IsVals W0 u vs → (∀ v ∈ vs, v.ref = true → Lives (conts cs) v.n) →
  Mem W0.heap.size W0 w (rchA vo bs bw bl vK K) →
  CallsIn Fence.wide 10 Try.prog 101 #[u, .pointer (some ⟨bs, 0, none⟩), .pointer (some ⟨bw, 0, none⟩), .pointer (some ⟨bl, 0, none⟩)] w fun e w' =>
    e = .returned (.tuple #[]) ∧ ∃ K', KeepR (conts cs) (fun v => v ∈ vs) K K' ∧ Mem W0.heap.size W0 w' (rchA vo bs bw bl vK K') ∧ KeepsOthers w w'
set_option maxRecDepth 100000 in
set_option maxHeartbeats 4000000 in
theorem rch_step (hM0 : Mem B w0 W0 L) (O : OAt L kp k0 vo cs) (hO : ObK cs) (m : Nat) (ih : ∀ m', m' < m → RchC vo cs W0 bs bw bl vK m') : RchC vo cs W0 bs bw bl vK m := by
  intro K w u vs hKl hm hV hlv hM
  obtain ⟨au, cu, rfl, hlu⟩ := hV.slice
  have HV := Lib.hid hV
  have HM0 := Lib.hid hM0
  have HOA := Lib.hid O
  have Hih := Lib.hid ih
  have HO := Lib.hid hO
  have Hlv := Lib.hid hlv
  have Hm := Lib.hid hm
  have HKl := Lib.hid hKl
  have HMa := Lib.hid hM
  clear ih hO hV hlv hM hm hKl hM0 O
  refine callsIn_of_wp_marks Try.func101 rfl trivial ?_ rfl
  simp only [Try.ntmps101, List.size_toArray, List.length_cons, List.length_nil, Nat.reduceAdd, Nat.reduceSub, Array.replicate_succ, Array.replicate_zero, List.push_toArray, List.append_toArray, List.nil_append, List.cons_append]
  gi_wp2_with fail
  refine ⟨trivial, (targets_opaque _ _ _ _ _).mono ?_⟩
  rintro e w3 ⟨Bs, rfl, hb3, hBs, hcs⟩
  have hM1 := HMa.out.call hb3
  have hko3 : KeepsOthers w w3 := ⟨hb3.size, fun k _ hk _ => (hb3.block k (Array.getElem?_eq_some_iff.1 hk).1).trans hk⟩
  have Hko3 := Lib.hid hko3
  clear hko3 hb3
  have hst0 : KeepR (conts cs) (inT (([] : List (Tg vs)).map (·.1))) K K := (KeepR.nil (conts cs) K).refs fun v _ => by simp [inT]
  have hcalm : ∀ (D : Nat) K', ∀ x ∈ rchA vo bs bw bl vK K', x.Calm D := fun D K' =>
    calm_cons (ebox_calm _ _ _ _) (calm_cons (rowK_calm _ _ _) (calm_cons (ebox_calm _ _ _ _) (calm_cons (ebox_calm _ _ _ _) (calm_nil _))))
  have Hcalm := Lib.hid hcalm
  clear hcalm
  gi_wp2
  refine range_slot (by omega) (gf := 114) (lb := #[.pointer (some ⟨Bs, 0, none⟩)]) rfl (enters_of Try.func114 (by kernel_rfl) rfl)
    (targets_stops _ (by omega) Bs vs _ W0 HV.out w3 hM1.below hBs hcs) hM1.base
    (fun pre W => ∃ K1, KeepR (conts cs) (inT (pre.map (·.1))) K K1 ∧ KeepsOthers w W ∧ Mem W0.heap.size W0 W (rchA vo bs bw bl vK K1))
    (fun _ _ _ => False) ?own (fun _ => ownFrom_false _) ⟨K, hst0, Hko3.out, hM1⟩ 5 (fun x => .int .i64 x.1) ?assign ?body ?done ?stop
  case own =>
    refine ownFrom_ex fun K1 => ownFrom_and (p := fun pre : List (Tg vs) => KeepR (conts cs) (inT (pre.map (·.1))) K K1) ?_
    intro s W W' row hs hg hr
    refine ⟨ownFrom_keeps (β := Unit) (B := w3.heap.size) Hko3.out.size () W W' row hs.1 hg hr, ?_⟩
    exact ownFrom_mem (β := Unit) (fun _ => rchA vo bs bw bl vK K1) hM1.base (fun _ => Hcalm.out _ K1) () W W' row hs.2 hg hr
  case assign =>
    intro l x W Kk hK
    simp only [laid]
    gi_wp2
    exact hK
  case stop => rintro D c pre W hD hpre hf hK; exact hf.elim
  case body =>
    rintro lb pre ⟨x, hx⟩ W hsz ⟨K1, hS, hko, hM⟩ hlen
    have hxv := mem_of_target hx
    have hlx := Hlv.out _ hxv rfl
    obtain ⟨i, rfl⟩ : ∃ i : Nat, x = (i : Int) := ⟨x.toNat, by have h0 : (0 : Int) ≤ x := hlx.1; omega⟩
    have hi : i < cs.length := by have h1 := hlx.lt; rw [conts_len] at h1; simpa using h1
    have hK1 : K1.length = cs.length := by rw [hS.len, HKl.out]
    obtain ⟨b, hb⟩ := get_some K1 i (by omega)
    obtain ⟨gK, capK, hvK, c4, f4, z4⟩ := hM.boolK 1 rfl hb
    subst hvK
    have q0 : W.cell? ⟨bs, 0, none⟩ = some (.slice (some ⟨gK, 0, none⟩) K1.length capK) := by have := hM.cell 0 rfl 0; simpa using this
    have qb : bs < W.heap.size := (hM.box 0 rfl).2.1
    obtain ⟨pl, hpl⟩ : ∃ pl : List Int, pre.map (·.1) = pl := ⟨_, rfl⟩
    rw [hpl] at hS
    have Hpl := Lib.hid hpl
    have HM := Lib.hid hM
    have HS := Lib.hid hS
    have Hb := Lib.hid hb
    have HK1 := Lib.hid hK1
    have Hko := Lib.hid hko
    have Hlx := Lib.hid hlx
    have ei : (i : Int) < (K1.length : Int) := by omega
    have hadd : ∀ K2, KeepR (conts cs) (fun u => inT pl u ∨ u = ⟨true, (i : Int)⟩) K K2 → KeepR (conts cs) (inT ((pre ++ [(⟨(i : Int), hx⟩ : Tg vs)]).map (·.1))) K K2 := by
      intro K2 h
      refine h.refs fun v hr => ?_
      rw [List.map_append, Hpl.out]
      simp only [inT, List.map_cons, List.map_nil, List.mem_append, List.mem_singleton]
      constructor
      · rintro (⟨_, h1⟩ | rfl)
        · exact ⟨hr, .inl h1⟩
        · exact ⟨rfl, .inr rfl⟩
      · rintro ⟨_, h1 | h1⟩
        · exact .inl ⟨hr, h1⟩
        · right
          obtain ⟨r, n⟩ := v
          simp only at hr h1
          rw [hr, h1]
    have Hadd := Lib.hid hadd
    clear hpl hS hM hxv hlen hsz hb hK1 hko hlx hadd
    simp only [laid]
    cases b with
    | true =>
      have Hs2 := Lib.hid (HS.out.skip (v := ⟨true, (i : Int)⟩) (fun _ => oA_get.2 Hb.out))
      gi_wp2
      exact ⟨KeepsFrom.refl _ _, Below.refl _ _, K1, Hadd.out _ Hs2.out, Hko.out, HM.out⟩
    | false =>
      have hM2 : Mem W0.heap.size W0 (W.setCell ⟨gK, i, none⟩ (.bool true)) (rchA vo bs bw bl (.slice (some ⟨gK, 0, none⟩) K1.length capK) (K1.set i true)) := (HM.out.setK 1 rfl rfl i true).cast rfl
      obtain ⟨W2, hW2⟩ : ∃ W2, W.setCell ⟨gK, i, none⟩ (.bool true) = W2 := ⟨_, rfl⟩
      have hkW : KeepsOthers W (W.setCell ⟨gK, i, none⟩ (.bool true)) := KeepsOthers.setCell W _ _
      have HkW := Lib.hid hkW
      rw [hW2] at hM2 HkW
      have HW2 := Lib.hid hW2
      clear hW2 hkW
      have hob := Hlx.out.obj
      rw [Int.toNat_natCast] at hob
      obtain ⟨o, ho, hol⟩ := conts_get hob
      have hMw := HM0.out.call hM2.below
      obtain ⟨g, cap, hvo, p0, p1, p2⟩ := hMw.ptrAt HOA.out ho
      obtain ⟨q3, q4, ao, co, hov⟩ := hMw.objAt HOA.out ho
      have r0 : W2.cell? ⟨bw, 0, none⟩ = some (rchF bs bw bl) := by have := hM2.cell 2 rfl 0; simpa using this
      have r1 : bw < W2.heap.size := (hM2.box 2 rfl).2.1
      have r2 : W2.cell? ⟨bl, 0, none⟩ = some vo := by have := hM2.cell 3 rfl 0; simpa using this
      have r3 : bl < W2.heap.size := (hM2.box 3 rfl).2.1
      rw [hvo] at r2
      rw [hov] at q3
      unfold ptrO at p0
      simp only at p0
      have e2 : (i : Int) < (cs.length : Int) := by omega
      have hob2 := HO.out.val i _ hob
      have hK2 : (K1.set i true).length = cs.length := by rw [List.length_set]; exact HK1.out
      have hc1 := cntF_set K1 Hb.out
      have hc3 := HS.out.cnt
      have hlt : (K1.set i true).count false < m := by have := Hm.out; omega
      have hoA : objAt (conts cs) (i : Int) = o.l := by rw [hol]
      have hr' := HOA.out.r i _ ho
      have hcall := Hih.out _ hlt (K1.set i true) W2.drew o.v o.l hK2 (Nat.le_refl _) (Mem.isVals HM0.out _ hr' (by rw [hol]; have := hob2.1; omega) (fun x hx => hob2.2 x (by rw [← hol]; exact hx))) (fun v hv hr => HO.out.clo _ Hlx.out v (by rw [hoA]; exact hv) hr) hM2.drew
      rw [hov] at hcall
      have Hcall := Lib.hid (callsIn_wide.1 hcall)
      have HoA := Lib.hid hoA
      have Hb2 := Lib.hid hM2.below
      clear hM2 hMw hvo hov hob ho hob2 hK2 hc1 hc3 hlt hcall hoA hol hr'
      gi_wp2
      rw [HW2.out]
      refine region_round_tail 8 (by kernel_rfl) (by kernel_rfl) (by kernel_rfl) (by rintro ⟨a, w, h⟩; exact h) ?_
      simp only [List.take_succ_cons, List.take_zero, List.drop_succ_cons, List.drop_zero]
      repeat still_step
      try refine wpStill_nil ?_
      go_wp2_with fail
      refine Hcall.out.mono ?_
      rintro e w5 ⟨rfl, K3, hR3, hM3, hk3⟩
      have hR4 := HS.out.one (v := ⟨true, (i : Int)⟩) rfl (by simp) (by rw [HKl.out]; simpa using e2) (bool_no fun h => by have h1 := oA_get.1 h; rw [Hb.out] at h1; cases h1) (by rw [HoA.out]; exact hR3)
      have hk4 := (HkW.out.trans (KeepsOthers.drew _)).trans hk3
      have HR4 := Lib.hid hR4
      have HM3 := Lib.hid hM3
      have Hk4 := Lib.hid hk4
      clear hR3 hM3 hk3 hR4 hk4
      gi_wp2
      exact ⟨Hk4.out.from _, below_between HM.out.below HM3.out.below Hk4.out.size, K3, Hadd.out _ HR4.out, Hko.out.trans Hk4.out, HM3.out⟩
  case done =>
    rintro D1 xs W hD1 hxs ⟨K1, hS, hko, hM⟩ hK1
    have hbig : w.heap.size ≤ D1 := Nat.le_trans Hko3.out.size hD1
    have hM7 := hM.addDef' (D := D1) (Nat.le_trans hM1.base hD1) hK1 (Hcalm.out _ K1)
    have hS2 : KeepR (conts cs) (fun v => v ∈ vs) K K1 := hS.refs fun v hr => by
      rw [hxs]
      unfold inT
      rw [mem_targets_iff']
      constructor
      · rintro ⟨_, u, hu, hur, hun⟩
        obtain ⟨r, n⟩ := v
        obtain ⟨r', n'⟩ := u
        simp only at hr hur hun
        subst hr hur hun; exact hu
      · intro hv
        exact ⟨hr, v, hv, hr, rfl⟩
    have HM7 := Lib.hid hM7
    have HS2 := Lib.hid hS2
    have Hko4 := Lib.hid hko
    clear hM hM7 hS hS2 hxs hK1 hko
    gi_wp2
    refine leaves_marks2 (v := .tuple #[]) [D1] _ HM7.out Hko4.out (by intro D hD; simp at hD; subst hD; exact hbig) ?_
    intro W' hM8 hko8
    exact ⟨by simp [results, Try.results101, go_sem], rfl, K1, HS2.out, hM8, hko8⟩
theorem rch_all (hM0 : Mem B w0 W0 L) (O : OAt L kp k0 vo cs) (hO : ObK cs) : ∀ m, RchC vo cs W0 bs bw bl vK m := fun m => by
  induction m using Nat.strongRecOn with
  | _ m ih => exact rch_step B w0 L kp k0 vo cs W0 bs bw bl vK hM0 O hO m ih
end
set_option maxRecDepth 100000 in
set_option maxHeartbeats 4000000 in
theorem reached_any (B : Nat) (w0 : World) (L : List Ent) (kp k0 : Nat) (vo : Value) (cs : List (Option Oc)) (w : World) (hM0 : Mem B w0 w L) (O : OAt L kp k0 vo cs) (hO : ObK cs) (hn : cs.length ≤ 1000) (u : Value) (vs : List V) (hV : IsVals w u vs) (hlv : ∀ v ∈ vs, v.ref = true → Lives (conts cs) v.n) :
    Calls Try.prog 82 #[vo, u] w fun e w' => ∃ vK K, e = .returned vK ∧ KeepR (conts cs) (fun v => v ∈ vs) (List.replicate cs.length false) K ∧ Mem w.heap.size w w' [rowK vK K] := by
  obtain ⟨au, cu, rfl, _⟩ := hV.slice
  obtain ⟨ao, co, rfl⟩ := hM0.ptrSlice O
  have hM1 := (Mem.start w).alloc #[.slice ao cs.length co] 74
  have HM0 := Lib.hid hM0
  have HOA := Lib.hid O
  have HO := Lib.hid hO
  have HV := Lib.hid hV
  have Hlv := Lib.hid hlv
  have q0 := hM1.cell 0 rfl 0
  clear hM0 O hO hV hlv
  go_enter Try.func82, Try.ntmps82
  go_wp2_with (at_make; refine Mem.wp_makeK elemFlagsK rfl _ _ rfl hM1 _ _ cs.length rfl rfl (by go_num) (by go_num) (by omega) ?_; intro w1 hM2 hb1; have z1 : w.heap.size < w1.heap.size := (hM2.box 1 rfl).2.1; have z2 : w.heap.size < w1.heap.size + 1 := (by omega); have z3 : w.heap.size < w1.heap.size + 1 + 1 := (by omega))
  have hM1b : Mem w.heap.size w w1 [rowK (.slice (some ⟨w.heap.size + 1, 0, none⟩) cs.length cs.length) (List.replicate cs.length false), ebox w.heap.size #[.slice ao cs.length co] 74] := by
    simpa using hM2
  have hM3 := (hM1b.alloc #[.slice (some ⟨w.heap.size + 1, 0, none⟩) cs.length cs.length] 118).allocAt (w1.heap.size + 1) (by simp) #[rchF w1.heap.size (w1.heap.size + 1) w.heap.size] 157
  have hM4 := hM3.pick0 (A' := rchA (.slice ao cs.length co) w1.heap.size (w1.heap.size + 1) w.heap.size (.slice (some ⟨w.heap.size + 1, 0, none⟩) cs.length cs.length) (List.replicate cs.length false)) [1, 2, 0, 3] (by decide) rfl
  have hcall := callsIn_wide.1 (rch_all B w0 L kp k0 (.slice ao cs.length co) cs w w1.heap.size (w1.heap.size + 1) w.heap.size (.slice (some ⟨w.heap.size + 1, 0, none⟩) cs.length cs.length) HM0.out HOA.out HO.out _ (List.replicate cs.length false) _ (.slice au vs.length cu) vs (by simp) (Nat.le_refl _) HV.out Hlv.out hM4)
  refine hcall.mono ?_
  rintro e w3 ⟨rfl, K', hR, hM5, _⟩
  have q1 : w3.cell? ⟨w1.heap.size, 0, none⟩ = some (.slice (some ⟨w.heap.size + 1, 0, none⟩) cs.length cs.length) := by have := hM5.cell 0 rfl 0; simpa using this
  have q2 : w1.heap.size < w3.heap.size := (hM5.box 0 rfl).2.1
  have HR := Lib.hid hR
  clear hcall hM4 hM3 hM1b hM2 hM1 hb1 hR
  go_wp2_with fail
  refine bodyPost_ret (v := .slice (some ⟨w.heap.size + 1, 0, none⟩) cs.length cs.length) (by simp [results, Try.results82, go_sem]) rfl ⟨_, K', rfl, HR.out, ?_⟩
  exact hM5.pick0 [1] (by decide) rfl
end Go.Proofs.Ytmmcjjklmcfegaa

/- A memory with young and old: many, Hold, walked. -/
namespace Go.Proofs.Ytmmcjjklmcfegaa
open Go.RowKit Go.Shelf

section
variable (B : Nat) (w0 : World) (bx : Nat) (regs : List V) (mv : Value) (bm : Nat) (room : Int)
/-- A machine with such a memory. -/
def GM (os : Os) (x : Gx) (T : List Ent) (w : World) : Prop :=
  ∃ vo cs bt nt vK, conts cs = os ∧ nt ≤ x.cnt ∧ Mem B w0 w (gA bx regs mv bm room vo cs (.map (some bt)) (gmap mapCI bt nt (setC x.rem)) vK x.old ++ (objsE cs ++ T))
variable {B w0 bx regs mv bm room} in
theorem GM.call {os : Os} {x : Gx} {T : List Ent} {w w' : World} (h : GM B w0 bx regs mv bm room os x T w) (hb : Below w.heap.size w w') : GM B w0 bx regs mv bm room os x T w' := by
  obtain ⟨vo, cs, bt, nt, vK, h1, h2, h3⟩ := h
  exact ⟨vo, cs, bt, nt, vK, h1, h2, h3.call hb⟩
theorem count_take {l : List Int} {k : Nat} {y : Int} (h : l[k]? = some y) (p : Int → Bool) : (l.take (k + 1)).countP p = (l.take k).countP p + if p y = true then 1 else 0 := by
  rw [take_succ_some _ _ _ h, List.countP_append, List.countP_singleton]
set_option maxRecDepth 100000 in
set_option maxHeartbeats 1000000 in
theorem ghold_any (T : List Ent) (w : World) (os : Os) (x : Gx) (r : Nat) (u : V) (hC : GM B w0 bx regs mv bm room os x T w) :
    Calls Try.prog 163 #[.pointer (some ⟨bm, 0, none⟩), .int .i64 (r : Int), .agg #[.bool u.ref, .int .i64 u.n]] w fun e w' => e = .returned (.tuple #[]) ∧ GM B w0 bx regs mv bm room os x T w' := by
  have HC := Lib.hid (hC.call ((Below.refl w.heap.size w).alloc (Nat.le_refl _) (.cells #[.bool u.ref, .int .i64 u.n] 80)))
  clear hC
  go_enter Try.func163, Try.ntmps163
  go_wp2_with fail
  refine bodyPost_end (results_none rfl _ _ _) rfl ⟨rfl, HC.out⟩
set_option maxRecDepth 100000 in
set_option maxHeartbeats 4000000 in
theorem many_any (T : List Ent) (w : World) (os : Os) (x : Gx) (b : Bool) (hl : os.length ≤ 1000) (hol : x.old.length = os.length) (hC : GM B w0 bx regs mv bm room os x T w) :
    Calls Try.prog 166 #[.pointer (some ⟨bm, 0, none⟩), .bool b] w fun e w' => e = .returned (.int .i64 (manyC b ⟨regs, os, x⟩ : Int)) ∧ GM B w0 bx regs mv bm room os x T w' := by
  obtain ⟨vo, cs, bt, nt, vK, hc, hnt, hM⟩ := hC
  have m0 : w.cell? ⟨bm, 0, none⟩ = some vo := hM.cell 1 rfl 0
  have mb : bm < w.heap.size := (hM.box 1 rfl).2.1
  have hcl2 : cs.length = os.length := by rw [← hc, conts_len]
  have hth := othere_any B w0 w _ 2 5 vo cs hM (oAt_of (A := gA bx regs mv bm room vo cs (.map (some bt)) (gmap mapCI bt nt (setC x.rem)) vK x.old) rfl) (by omega)
  rw [hc, hcl2] at hth
  have hmany : manyC b ⟨regs, os, x⟩ = (thereL os os.length).countP fun i => oA x.old i == b := rfl
  have hmem : ∀ y ∈ thereL os os.length, Lives os y := fun y hy => ((mem_thereL (Nat.le_refl _)).1 hy).1
  obtain ⟨TL, hTL⟩ : ∃ TL, thereL os os.length = TL := ⟨_, rfl⟩
  have hTn : TL.length ≤ 1000 := by rw [← hTL]; have := thereL_len os os.length; omega
  rw [hTL] at hth hmany hmem
  rw [hmany]
  have Hth := Lib.hid hth
  have HM := Lib.hid hM
  have Hc := Lib.hid hc
  have Hol := Lib.hid hol
  have Hcl2 := Lib.hid hcl2
  have Hl := Lib.hid hl
  have Hmem := Lib.hid hmem
  have Hnt := Lib.hid hnt
  clear hM hc hcl2 hl hth hTL hmany hmem hol hnt
  go_enter Try.func166, Try.ntmps166
  go_wp2_with fail
  refine Hth.out.mono ?_
  rintro e w1 ⟨vl, rfl, hMt⟩
  obtain ⟨aL, cL, rfl⟩ := hMt.intsSlice 0 rfl
  have hM1 := HM.out.call hMt.below
  have HM1 := Lib.hid hM1
  have HMt := Lib.hid hMt
  have m2 : w1.cell? ⟨bm, 2, none⟩ = some vK := hM1.cell 1 rfl 2
  have mb1 : bm < w1.heap.size := (hM1.box 1 rfl).2.1
  obtain ⟨nL, hnL⟩ : ∃ nL, TL.length = nL := ⟨_, rfl⟩
  have HnL := Lib.hid hnL
  rw [hnL] at hTn ⊢
  clear hM1 hMt Hth HM m0 mb hnL
  go_wp2_with fail
  go_loopw [5, 7, 14] (fun n5 _ i14 wr => ∃ k : Nat, k ≤ nL ∧ i14 = .int .i64 (k : Int) ∧ n5 = .int .i64 (((TL.take k).countP (fun i => oA x.old i == b) : Nat) : Int) ∧ wr = w1) (fun _ _ i _ => nL - (intOf i).toNat)
  case atStart => exact ⟨0, Nat.zero_le _, rfl, rfl, rfl⟩
  case round =>
    obtain ⟨k, hk, rfl, rfl, rfl⟩ := hrel
    have hcn : (TL.take k).countP (fun i => oA x.old i == b) ≤ 1000 := by
      have h1 := List.countP_le_length (p := fun i => oA x.old i == b) (l := TL.take k)
      have h2 := take_len_le TL k
      have h3 := HnL.out
      omega
    obtain ⟨c, hcc⟩ : ∃ c, (TL.take k).countP (fun i => oA x.old i == b) = c := ⟨_, rfl⟩
    have Hcc := Lib.hid hcc
    rw [hcc] at hcn ⊢
    clear hcc
    by_cases hlt : k < nL
    · obtain ⟨y, hy⟩ := get_some TL k (by rw [HnL.out]; exact hlt)
      have hli := Hmem.out y (List.mem_of_getElem? hy)
      obtain ⟨i, rfl⟩ : ∃ i : Nat, y = (i : Int) := ⟨y.toNat, by have := hli.1; omega⟩
      obtain ⟨gL, cL2, hv, _, lb, lc, lf⟩ := HMt.out.intsAt 0 rfl (by rintro rfl; simp at hy)
      cases hv
      have l0 := lc k _ hy
      have hiK : i < x.old.length := by have := hli.lt; rw [Hol.out]; simpa using this
      obtain ⟨bit, hbit⟩ := get_some x.old i hiK
      obtain ⟨gK, capK, hvK, c4, f4, z4⟩ := HM1.out.boolK 3 rfl hbit
      rw [hvK] at m2
      have e1 : (k : Int) < (nL : Int) := by omega
      have e2 : (i : Int) < (x.old.length : Int) := by omega
      have hoA : oA x.old (i : Int) = bit := by
        cases bit with
        | true => exact oA_get.2 hbit
        | false => exact bool_no fun h => by have h1 := oA_get.1 h; rw [hbit] at h1; cases h1
      have hct := count_take hy (fun i => oA x.old i == b)
      rw [Hcc.out] at hct
      rw [hoA] at hct
      have Hct := Lib.hid hct
      clear lc lf hy hli hbit hoA hct hiK
      by_cases hbb : bit = b
      · subst hbb
        have hct2 := Hct.out
        simp only [beq_self_eq_true, if_true] at hct2
        have Hct2 := Lib.hid hct2
        clear Hct hct2
        go_wp2_with fail
        go_roundw
        case rel => exact ⟨k + 1, by omega, by go_num, by rw [Hct2.out]; simp, trivial⟩
        case measure => simp [intOf]; omega
      · have hct2 := Hct.out
        rw [if_neg (by simpa using hbb)] at hct2
        have hb1 : (bit == b) = false := by simpa using hbb
        have hb2 : decide (bit = b) = false := by simpa using hbb
        have Hct2 := Lib.hid hct2
        clear Hct hct2
        go_wp2_with fail
        go_roundw
        case rel => exact ⟨k + 1, by omega, by go_num, by rw [Hct2.out]; simp, trivial⟩
        case measure => simp [intOf]; omega
    · obtain rfl : k = nL := by omega
      have hall := Hcc.out
      rw [← HnL.out, List.take_length] at hall
      have Hall := Lib.hid hall
      clear hall
      go_wp2_with fail
      refine bodyPost_ret (v := .int .i64 (c : Int)) (by simp [results, Try.results166, go_sem]) rfl ?_
      exact ⟨by rw [Hall.out], vo, cs, bt, nt, vK, Hc.out, Hnt.out, HM1.out⟩
end
end Go.Proofs.Ytmmcjjklmcfegaa

/- A memory with young and old: Put, walked. -/
namespace Go.Proofs.Ytmmcjjklmcfegaa
open Go.RowKit Go.Shelf

theorem bit_at {o : List Bool} {i : Nat} {b : Bool} (h : o[i]? = some b) : oA o (i : Int) = b := by
  cases b with
  | true => exact oA_get.2 h
  | false => exact bool_no fun h1 => by have h1 := oA_get.1 h1; rw [h] at h1; cases h1
section
variable (B : Nat) (w0 : World) (bx : Nat) (regs : List V) (mv : Value) (bm : Nat) (room : Int)
set_option maxRecDepth 100000 in
set_option maxHeartbeats 4000000 in
theorem gput_any (T : List Ent) (w : World) (os : Os) (x : Gx) (i k : Nat) (u : V) (hi : Lives os (i : Int)) (hk : k < (objAt os (i : Int)).length) (hk4 : k ≤ 1000) (hl : os.length ≤ 1000) (hol : x.old.length = os.length) (hu : u.ref = true → Lives os u.n) (hcn : x.cnt ≤ 1000)
    (hC : GM B w0 bx regs mv bm room os x T w) :
    Calls Try.prog 165 #[.pointer (some ⟨bm, 0, none⟩), .int .i64 (i : Int), .int .i64 (k : Int), .agg #[.bool u.ref, .int .i64 u.n]] w fun e w' => e = .returned (.tuple #[]) ∧
      GM B w0 bx regs mv bm room (os.set i (some ((objAt os (i : Int)).set k u))) ⟨x.old, if oA x.old (i : Int) = true ∧ u.ref = true ∧ oA x.old u.n = false then (fun p => if p = ((i : Int), (k : Int)) then true else x.rem p) else x.rem, x.cnt + 1⟩ T w' := by
  obtain ⟨vo, cs, bt, nt, vK, hcs, hnt, hM0⟩ := hC
  obtain ⟨b7, hb7⟩ : ∃ b7, w.heap.size = b7 := ⟨_, rfl⟩
  obtain ⟨W, hW⟩ : ∃ W, w.alloc (.cells #[.bool u.ref, .int .i64 u.n] 80) = W := ⟨_, rfl⟩
  have hM := (hM0.alloc #[.bool u.ref, .int .i64 u.n] 80).toTail
  rw [hW, hb7] at hM
  obtain ⟨em, hem⟩ : ∃ em, gmap mapCI bt nt (setC x.rem) = em := ⟨_, rfl⟩
  rw [hem] at hM
  have hidx := fun cs' : List (Option Oc) => idx_tail (gA bx regs mv bm room vo cs' (.map (some bt)) em vK x.old) cs' (ebox b7 #[.bool u.ref, .int .i64 u.n] 80) T
  have z0 : W.cell? ⟨b7, 0, none⟩ = some (.bool u.ref) := by have := hM.cell _ (hidx cs) 0; simpa using this
  have z1 : W.cell? ⟨b7, 1, none⟩ = some (.int .i64 u.n) := by have := hM.cell _ (hidx cs) 1; simpa using this
  have zb : b7 < W.heap.size := (hM.box _ (hidx cs)).2.1
  have hob := hi.obj
  rw [Int.toNat_natCast] at hob
  rw [← hcs] at hob
  obtain ⟨oc, hoc, hlo⟩ := conts_get hob
  rw [hcs] at hlo
  have m0 : W.cell? ⟨bm, 0, none⟩ = some vo := hM.cell 1 rfl 0
  have mb : bm < W.heap.size := (hM.box 1 rfl).2.1
  have hil : i < x.old.length := by have := hi.lt; rw [hol]; simpa using this
  obtain ⟨bi, hbi⟩ := get_some x.old i hil
  have hoi := bit_at hbi
  rw [hoi]
  obtain ⟨r', hr'⟩ : ∃ r', (if bi = true ∧ u.ref = true ∧ oA x.old u.n = false then (fun p => if p = ((i : Int), (k : Int)) then true else x.rem p) else x.rem) = r' := ⟨_, rfl⟩
  rw [hr']
  have Hr := Lib.hid hr'
  clear hr'
  have HM := Lib.hid hM
  have HW := Lib.hid hW
  have Hb7 := Lib.hid hb7
  have Hl := Lib.hid hlo
  have Hoc := Lib.hid hoc
  have Hk := Lib.hid hk
  have Hcs := Lib.hid hcs
  have Hem := Lib.hid hem
  have Hidx := Lib.hid hidx
  have Hbi := Lib.hid hbi
  have Hu := Lib.hid hu
  have Hol := Lib.hid hol
  have Hnt := Lib.hid hnt
  have ei : (i : Int) < (x.old.length : Int) := by omega
  clear hM hM0 hW hb7 hcs hob hlo hoc hk hi hem hidx hbi hoi hu hol hnt
  go_enter Try.func165, Try.ntmps165
  go_upto_region 1 with (fail)
  rw [HW.out, Hb7.out]
  go_still_tail 7, (by kernel_rfl)
  go_wp2_with fail
  have hkl : k < oc.l.length := by rw [Hl.out]; exact Hk.out
  refine (oput_any B w0 W.drew _ 2 5 vo cs HM.out.drew (oAt_of (A := gA bx regs mv bm room vo cs (.map (some bt)) em vK x.old) rfl) i oc Hoc.out k hkl u).mono ?_
  rintro e w4 ⟨rfl, hM4⟩
  have h1 := objs_set (A := gA bx regs mv bm room vo cs (.map (some bt)) em vK x.old) (R := ebox b7 #[.bool u.ref, .int .i64 u.n] 80 :: T) Hoc.out (c' := some ⟨oc.b, oc.v, oc.l.set k u⟩) rfl
  have h2 : rowP vo (cs.set i (some ⟨oc.b, oc.v, oc.l.set k u⟩)) = rowP vo cs := by
    unfold rowP
    rw [List.length_set, List.map_set]
    congr 1
    exact set_same (by rw [List.getElem?_map, Hoc.out]; rfl)
  have hM5 := hM4.cast h1
  have e4 : gA bx regs mv bm room vo cs (.map (some bt)) em vK x.old = gA bx regs mv bm room vo (cs.set i (some ⟨oc.b, oc.v, oc.l.set k u⟩)) (.map (some bt)) em vK x.old := by
    unfold gA; rw [h2]
  rw [e4] at hM5
  have hcs' : conts (cs.set i (some ⟨oc.b, oc.v, oc.l.set k u⟩)) = os.set i (some ((objAt os (i : Int)).set k u)) := by
    rw [← Hl.out, ← Hcs.out]
    unfold conts
    rw [List.map_set]; rfl
  obtain ⟨cs', hcse⟩ : ∃ cs', cs.set i (some ⟨oc.b, oc.v, oc.l.set k u⟩) = cs' := ⟨_, rfl⟩
  rw [hcse] at hM5 hcs'
  have y0 : w4.cell? ⟨b7, 0, none⟩ = some (.bool u.ref) := by have := hM5.cell _ (Hidx.out cs') 0; simpa using this
  have y1 : w4.cell? ⟨b7, 1, none⟩ = some (.int .i64 u.n) := by have := hM5.cell _ (Hidx.out cs') 1; simpa using this
  have yb : b7 < w4.heap.size := (hM5.box _ (Hidx.out cs')).2.1
  obtain ⟨gK, capK, rfl, c4, _, cb⟩ := hM5.boolK 3 rfl Hbi.out
  have y2 : w4.cell? ⟨bm, 2, none⟩ = some (.slice (some ⟨gK, 0, none⟩) x.old.length capK) := hM5.cell 1 rfl 2
  have y3 : w4.cell? ⟨bm, 3, none⟩ = some (.map (some bt)) := hM5.cell 1 rfl 3
  have ym : bm < w4.heap.size := (hM5.box 1 rfl).2.1
  have fin : ∀ (w' : World) (nt' : Nat) (r : Int × Int → Bool), nt' ≤ x.cnt + 1 → Mem B w0 w' (gA bx regs mv bm room vo cs' (.map (some bt)) (gmap mapCI bt nt' (setC r)) (.slice (some ⟨gK, 0, none⟩) x.old.length capK) x.old ++ (objsE cs' ++ (ebox b7 #[.bool u.ref, .int .i64 u.n] 80 :: T))) →
      GM B w0 bx regs mv bm room (os.set i (some ((objAt os (i : Int)).set k u))) ⟨x.old, r, x.cnt + 1⟩ T w' := by
    intro w' nt' r hn h
    exact ⟨vo, cs', bt, nt', _, hcs', hn, h.drop (List.Sublist.append_left (List.Sublist.append_left (List.sublist_cons_self _ _) _) _)⟩
  have Fin := Lib.hid fin
  have HM5 := Lib.hid hM5
  have stay : ∀ n, GM B w0 bx regs mv bm room (os.set i (some ((objAt os (i : Int)).set k u))) ⟨x.old, x.rem, x.cnt + 1⟩ T (w4.drewN n) := fun n => Fin.out _ nt _ (by have := Hnt.out; omega) (by rw [Hem.out]; exact HM5.out.drewN n)
  have Stay := Lib.hid stay
  clear hM4 hM5 h1 h2 e4 HM z0 z1 zb m0 mb fin stay hcs' hcse
  cases bi with
  | false =>
    have e0 : r' = x.rem := by rw [← Hr.out, if_neg (by simp)]
    have E0 := Lib.hid e0
    clear e0
    go_wp2_with fail
    go_quiet (fail)
    go_wp2
    refine bodyPost_end (results_none rfl _ _ _) rfl ⟨rfl, ?_⟩
    rw [E0.out]
    exact Stay.out _
  | true =>
    cases hr : u.ref with
    | false =>
      rw [hr] at y0
      have e0 : r' = x.rem := by rw [← Hr.out, hr, if_neg (by simp)]
      have E0 := Lib.hid e0
      clear e0
      go_wp2_with fail
      go_quiet (fail)
      go_wp2
      refine bodyPost_end (results_none rfl _ _ _) rfl ⟨rfl, ?_⟩
      rw [E0.out]
      exact Stay.out _
    | true =>
      rw [hr] at y0
      have hlu := Hu.out hr
      obtain ⟨j, hj⟩ : ∃ j : Nat, u.n = (j : Int) := ⟨u.n.toNat, by have := hlu.1; omega⟩
      have hjl : j < x.old.length := by have h1 := hlu.lt; rw [Hol.out]; rw [hj] at h1; simpa using h1
      obtain ⟨bj, hbj⟩ := get_some x.old j hjl
      obtain ⟨gK2, capK2, hvK, d4, _, _⟩ := HM5.out.boolK 3 rfl hbj
      cases hvK
      have hoj := bit_at hbj
      rw [hj] at y1 ⊢
      have ej : (j : Int) < (x.old.length : Int) := by omega
      cases bj with
      | true =>
        have e0 : r' = x.rem := by rw [← Hr.out, hj, hoj, if_neg (by simp)]
        have E0 := Lib.hid e0
        clear e0 hbj hoj hlu hj hjl
        go_wp2_with fail
        go_quiet (fail)
        go_wp2
        refine bodyPost_end (results_none rfl _ _ _) rfl ⟨rfl, ?_⟩
        rw [E0.out]
        exact Stay.out _
      | false =>
        have e0 : r' = (fun p => if p = ((i : Int), (k : Int)) then true else x.rem p) := by rw [← Hr.out, hj, hoj, if_pos ⟨rfl, hr, rfl⟩]
        have E0 := Lib.hid e0
        have hMq : ∀ n, Mem B w0 (w4.drewN n) (gA bx regs mv bm room vo cs' (.map (some bt)) (gmap mapCI bt nt (setC x.rem)) (.slice (some ⟨gK, 0, none⟩) x.old.length capK) x.old ++ (objsE cs' ++ (ebox b7 #[.bool u.ref, .int .i64 u.n] 80 :: T))) := fun n => by rw [Hem.out]; exact HM5.out.drewN n
        have Hmq := Lib.hid hMq
        have hnk : nt ≤ 100000 := by have := Hnt.out; omega
        have hok : i64ok (i : Int) ∧ i64ok (k : Int) := by
          have h1 := Hol.out
          exact ⟨⟨by omega, by omega⟩, ⟨by omega, by omega⟩⟩
        clear e0 hbj hoj hlu hj hjl hMq
        go_wp2_with fail
        go_quiet (fail)
        go_wp2_with (first
          | (at_mapUpdate
             refine Mem.wp_putG (M := mapCI) rfl _ _ _ rfl (Hmq.out _) 4 rfl hnk rfl ((i : Int), (k : Int)) (.int .i64 1) rfl rfl hok ?_
             intro w6 hM6 hs6
             have HM6 := Lib.hid hM6
             clear hM6)
          | fail)
        refine bodyPost_end (results_none rfl _ _ _) rfl ⟨rfl, ?_⟩
        rw [E0.out]
        refine Fin.out _ (nt + 1) _ (by have := Hnt.out; omega) ?_
        have h9 := HM6.out
        rw [setC_put] at h9
        exact h9
end
end Go.Proofs.Ytmmcjjklmcfegaa
