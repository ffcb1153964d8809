/- graph.Targets at any slice, in a range whose body keeps what the slice reads as. -/
import Derived.Test.YtmmcjjklmcfegaaBase2
namespace Go.Proofs.Ytmmcjjklmcfegaa
open Go.RowKit Go.Shelf
attribute [local go_sem] Oper.semAt_some

/-- What the slice reads as stays. -/
def KpV (vs : Value) (L : List V) (A C : World) : Prop := IsVals A vs L → IsVals C vs L
theorem IsVals.putObj {W : World} {vs : Value} {L : List V} (h : IsVals W vs L) {l : Nat} {o : Obj} (o' : Obj) (hl : W.heap[l]? = some o) (hc : o.isCells = false) : IsVals (W.putObj l o') vs L := by
  obtain ⟨a, cap, rfl, hn, hx⟩ := h
  refine ⟨a, cap, rfl, hn, fun k x hk => ?_⟩
  obtain ⟨b, off, ha, h1, h2, h3, h4⟩ := hx k x hk
  have hne : l ≠ b := by
    rintro rfl
    unfold World.cell? at h2
    cases o with
    | cells => cases hc
    | _ => rw [hl] at h2; simp at h2
  have hb : (W.putObj l o').heap[b]? = W.heap[b]? := by
    unfold World.putObj
    simp only [Array.getElem?_setIfInBounds]
    rw [if_neg hne]
  refine ⟨b, off, ha, by simpa [World.putObj] using h1, ?_, ?_, h4⟩
  · unfold World.cell? at h2 ⊢
    rw [hb]; exact h2
  · unfold World.cell? at h3 ⊢
    rw [hb]; exact h3
set_option maxRecDepth 100000 in
set_option maxHeartbeats 2000000 in
theorem targets1_inV (n : Nat) (hn : 1 ≤ n) (lp Bs : Nat) (L : List V) (vs : Value) (W0 : World) (hL : IsVals W0 vs L) (J Jx : List (Tg L) → World → Prop)
    (hJ : AbidesFrom W0.heap.size J) (_hJx : AbidesFrom W0.heap.size Jx)
    (hY : ∀ pre x W, J pre W → pre.length < L.length + 1 → YieldAt Fence.wide (n - 1) Try.prog lp #[.int .i64 x.1] W fun e W' =>
      (e = .returned (.bool true) ∧ J (pre ++ [x]) W' ∧ KpV vs L W W') ∨ (e = .returned (.bool false) ∧ Jx (pre ++ [x]) W'))
    (hBs : W0.cell? ⟨Bs, 0, none⟩ = some vs) (h0 : J [] W0) :
    CallsIn Fence.wide n Try.prog 114 #[.func (.yield lp) #[] #[], .pointer (some ⟨Bs, 0, none⟩)] W0 fun e W' => (∃ v, e = .returned v) ∧
      ((∃ ys : List (Tg L), ys.map (·.1) = targets L ∧ J ys W') ∨ (∃ pre : List (Tg L), pre.map (·.1) <+: targets L ∧ Jx pre W')) := by
  obtain ⟨a, cap, rfl, hm⟩ := hL.slice
  have HL := Lib.hid hL
  clear hL
  refine callsIn_of_wp Try.func114 rfl trivial ?_ rfl
  simp only [Try.ntmps114, List.size_toArray, List.length_cons, List.length_nil, Nat.reduceAdd, Nat.reduceSub, Array.replicate_succ, Array.replicate_zero, List.push_toArray, List.append_toArray, List.nil_append, List.cons_append]
  gi_wp2
  gi_loopw [7] (fun i wr => ∃ (k : Nat) (pre : List (Tg L)), k ≤ L.length ∧ i = .int .i64 k ∧ pre.map (·.1) = targets (L.take k) ∧ J pre wr ∧ IsVals wr (.slice a L.length cap) L)
    (fun i _ => L.length - (intOf i).toNat)
  case atStart => exact ⟨0, [], Nat.zero_le _, rfl, rfl, h0, HL.out⟩
  case round =>
    obtain ⟨k, pre, hk, rfl, hpre, hJs, hB⟩ := hrel
    have Hpre := Lib.hid hpre
    clear hpre
    by_cases hlt : k < L.length
    · obtain ⟨x, hx⟩ := get_some _ _ hlt
      obtain ⟨b', off, cap2, hv, hb', hn2, c1, c2, _⟩ := hB.at (Below.refl _ _) hx
      cases hv
      have HS := Lib.hid (targets_succ (take_succ_some _ _ _ hx))
      have Hmem := Lib.hid (List.mem_of_getElem? hx)
      have HB := Lib.hid hB
      clear hx hB
      obtain ⟨r, mm⟩ := x
      cases r
      · have hpre2 := Hpre.out.trans (by simpa using HS.out.symm)
        have Hp2 := Lib.hid hpre2
        have hJ2 := fun o => hJ pre wr (wr.alloc o) none hJs (World.grownBy_alloc wr o none) (fun r e => by cases e)
        clear hpre2
        gi_wp2
        refine ⟨fun _ h => (by cases h), ?_⟩
        gi_wp2
        go_roundw
        case rel => exact ⟨k + 1, pre, by omega, by go_num, Hp2.out, hJ2 _, HB.out.later ((Below.refl _ wr).alloc (Nat.le_refl _) _)⟩
        case measure => simp [intOf]; omega
      · obtain ⟨xx, hxx⟩ : ∃ xx : Tg L, xx.1 = mm := ⟨⟨mm, mem_targets Hmem.out rfl⟩, rfl⟩
        have Hxx := Lib.hid hxx
        have hJ2 := hJ pre wr (wr.alloc (.cells #[.bool true, .int .i64 mm] 80)) none hJs (World.grownBy_alloc wr _ none) (fun r e => by cases e)
        have hlen : pre.length < L.length + 1 := by
          have h1 : pre.length = (targets (L.take k)).length := by rw [← Hpre.out, List.length_map]
          have h2 : (targets (L.take k)).length ≤ (L.take k).length := by unfold targets; rw [List.length_map]; exact List.length_filter_le _ _
          have h3 := take_len_le L k
          omega
        have hpre2 : (pre ++ [xx]).map (·.1) = targets (L.take (k + 1)) := by rw [List.map_append, Hpre.out, HS.out]; simp [hxx]
        have Hp2 := Lib.hid hpre2
        have hbk := HB.out.later ((Below.refl _ wr).alloc (Nat.le_refl _) (.cells #[.bool true, .int .i64 mm] 80))
        have Hbk := Lib.hid hbk
        obtain ⟨fn, tmps, assign, body, hy, hR⟩ := hY pre xx _ hJ2 hlen
        rw [hxx] at hy
        clear hxx hpre2 hbk
        gi_wp2
        refine hR.mono ?_
        rintro e W3 (⟨rfl, hJ3, hk3⟩ | ⟨rfl, hJx3⟩)
        · have Hb3 := Lib.hid (hk3 Hbk.out)
          clear hk3
          gi_wp2
          go_roundw
          case rel => exact ⟨k + 1, _, by omega, by go_num, Hp2.out, hJ3, Hb3.out⟩
          case measure => simp [intOf]; omega
        · gi_wp2
          refine bodyPost_ret (results_none rfl _ _ _) rfl ?_
          exact ⟨⟨_, rfl⟩, .inr ⟨_, by rw [Hp2.out]; exact targets_prefix _ _, hJx3⟩⟩
    · obtain rfl : k = L.length := by omega
      have hall : pre.map (·.1) = targets L := by have := Hpre.out; rwa [List.take_length] at this
      have Hall := Lib.hid hall
      clear hall hB
      gi_wp2
      go_end0
      exact ⟨⟨_, rfl⟩, .inl ⟨_, Hall.out, hJs⟩⟩
theorem targets_stopsV (n : Nat) (hn : 1 ≤ n) (Bs : Nat) (L : List V) (vs : Value) (w : World) (hL : IsVals w vs L) (hlt : Bs < w.heap.size) (hBs : w.cell? ⟨Bs, 0, none⟩ = some vs) :
    SeqStopsK Fence.wide n Try.prog 114 #[.pointer (some ⟨Bs, 0, none⟩)] (fun x : Tg L => #[Value.int .i64 x.1]) (KpV vs L)
      (fun ys => ys.map (·.1) = targets L) (fun pre => pre.map (·.1) <+: targets L) (L.length + 1) w := fun lp J Jx W hW hJ hJx hY h0 =>
  targets1_inV n hn lp Bs L vs W (hL.later hW) J Jx hJ hJx hY ((hW.cell (p := ⟨Bs, 0, none⟩) hlt).trans hBs) h0
/-- As 'range_slot', with a slice that reads as it did. -/
theorem range_slotV {P : Program} {n : Nat} {α : Type} {g : Operand} {p : Tmp} {assign body : Code} {Q : Exit → Act → World → Prop} {a : Act} {w : World}
    (h1 : 1 ≤ n) {gf : Nat} {lb : Array Value} (hg : a.eval g = .func (.func gf) #[] lb) (eg : ∀ args w, (callFunc gf args).run P w = .ok (.enter gf args) w)
    {enc : α → Value} {vs : Value} {L : List V} {S Sp : List α → Prop} {N : Nat} (hseq : SeqStopsK Fence.wide (n - 1) P gf lb (fun x => #[enc x]) (KpV vs L) S Sp N w) 
    (I : List α → World → Prop) (Ix : Code → List α → World → Prop) (hI : OwnFrom w.heap.size I) (hIx : ∀ c, OwnFrom w.heap.size (Ix c)) (h0 : I [] w) (slot : Nat) (enc2 : α → Value)
    (hassign : ∀ (l : Nat) (x : α) (W : World) (K : Act → World → Prop), K { tmps := (laid a p (enc x)).setIfInBounds slot (enc2 x), defers := [] } W →
      assign.wpIn (Fence.wide.inRound l) (n - 1 - 1) P (Exit.then K (fun _ _ _ => False)) { tmps := laid a p (enc x), defers := [] } W)
    (hbody : ∀ (l : Nat) (pre : List α) (x : α) (W : World), w.heap.size ≤ W.heap.size → I pre W → pre.length < N →
      body.wpIn (Fence.wide.inRound l) (n - 1 - 1) P (ownPostG w.heap.size (KpV vs L) I Ix (pre ++ [x]) W) { tmps := (laid a p (enc x)).setIfInBounds slot (enc2 x), defers := [] } W)
    (hdone : ∀ (D : Nat) (xs : List α) (W : World), w.heap.size ≤ D → S xs → I xs W → W.heap[D]? = some (.deferred (some [])) → Q .normal { a with defers := { target := .collected D, args := #[] } :: a.defers } W)
    (hstop : ∀ (D : Nat) (c : Code) (pre : List α) (W : World), w.heap.size ≤ D → Sp pre → Ix c pre W → W.heap[D]? = some (.deferred (some [])) → c.wpIn Fence.wide n P Q { a with defers := { target := .collected D, args := #[] } :: a.defers } W) :
    (Code.rangeFunc g #[p] assign body).wpIn Fence.wide n P Q a w := by
  refine wpIn_rangeFunc_ownH (F := Fence.wide) rfl h1 hg trivial eg hseq (fun h k hv => k (h hv)) (fun W l o o' hl h h2 h3 hv => hv.putObj o' h h2) (Below.refl _ _) (fun _ => rfl) (fun pre W => I pre W ∧ w.heap.size ≤ W.heap.size) Ix (hI.and (ownFrom_size _ _)) hIx ⟨h0, Nat.le_refl _⟩
    (fun x a' _ => a' = { tmps := (laid a p (enc x)).setIfInBounds slot (enc2 x), defers := [] })
    (fun x a' s W W' row ha _ _ => ha) ?_ ?_ (fun D xs W hD hS hi => hdone D xs W hD hS hi.1) hstop
  · intro l pre x W K hi hK
    rw [foldl_one]
    exact hassign l x W K (hK _ _ (KeepsFrom.refl _ _) (fun hv => hv) hi rfl)
  · rintro l pre x a' W hl ⟨r, hr⟩ ⟨hi, hz⟩ rfl hlen
    refine wpIn_mono (hbody l pre x W hz hi hlen) ?_
    intro e a3 W3 hp
    cases e with
    | normal => exact ⟨hp.1, hp.2.1, hp.2.2, Nat.le_trans hz hp.1.size⟩
    | _ => exact hp
end Go.Proofs.Ytmmcjjklmcfegaa
