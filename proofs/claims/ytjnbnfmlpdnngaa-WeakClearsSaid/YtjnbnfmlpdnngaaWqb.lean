/- graph.Renumber: what is made has room. -/
import Derived.Test.YtjnbnfmlpdnngaaBase4
import Derived.Test.YtjnbnfmlpdnngaaWe
namespace Go.Proofs.Ytjnbnfmlpdnngaa
open Go.RowKit Go.Shelf

theorem room_own {w : World} {B n sz : Nat} {e : TypeId} {v : Value} {xs : List Value} (h : w.ownsRow B e sz v n xs) : Room v := by
  rcases h.2 with ⟨rfl, h0⟩ | ⟨g, cap, cur, rfl, hB, hg, hnc, hcap, _⟩
  · exact ⟨_, _, _, rfl, Nat.le_refl _, by omega⟩
  · exact ⟨_, _, _, rfl, hnc, by simpa [maxLen] using hcap⟩
theorem roomO_of_own {w : World} {B n : Nat} {e : TypeId} {v : Value} {rows : Rws} {l : List (List V)} (h : w.ownsRow B e 1 v n (rows.map (·.1))) (hl : l.length = rows.length) (hr : ∀ r ∈ rows, Room r.1) : RoomO w v l := by
  have hlen : rows.length = n := by have := h.1; simpa using this
  intro k x b off n' cap u hx hv hc
  have hk : k < rows.length := by have := (List.getElem?_eq_some_iff.1 hx).1; omega
  rcases h.2 with ⟨rfl, h0⟩ | ⟨g, cap', cur, rfl, _⟩
  · cases hv
  · cases hv
    rw [Nat.zero_add, h.cellAt k (by omega), List.getElem?_map, List.getElem?_eq_getElem hk] at hc
    cases hc
    exact hr _ (List.getElem_mem hk)
/-- A graph with room, in any world that agrees on the blocks from B on. -/
def GraftR (B : Nat) (w : World) (v : Value) (c : G) : Prop := ∀ W' : World, w.heap.size ≤ W'.heap.size → (∀ b, B ≤ b → b < w.heap.size → W'.heap[b]? = w.heap[b]?) → IsGraph W' v c ∧ RoomG W' v c
theorem GraftR.step {B B' : Nat} {w w' : World} {v : Value} {c : G} (h : GraftR B w v c) (hB : B' ≤ B) (hs : w.heap.size ≤ w'.heap.size) (hb : ∀ b, B ≤ b → b < w.heap.size → w'.heap[b]? = w.heap[b]?) : GraftR B' w' v c :=
  fun W' hs' hb' => h W' (Nat.le_trans hs hs') (fun b h1 h2 => (hb' b (Nat.le_trans hB h1) (Nat.lt_of_lt_of_le h2 hs)).trans (hb b h1 h2))
theorem GraftR.later {B : Nat} {w W : World} {v : Value} {c : G} (h : GraftR B w v c) (hb : Below w.heap.size w W) : IsGraph W v c ∧ RoomG W v c := h W hb.size fun b _ hlt => hb.block b hlt
set_option maxRecDepth 100000 in
set_option maxHeartbeats 4000000 in
theorem renumber_room (g : G) (hG : Fits g) (v : Value) (u : Value) (l : List Int) (w : World) (hg : IsGraph w v g) (hu : IsInts w u l) (hl : l.length ≤ 1000) (hr : ∀ x ∈ l, 0 ≤ x ∧ x < (g.objs.length : Int)) :
    Calls Try.prog 48 #[v, u] w fun e w' => ∃ v', e = .returned v' ∧ GraftR w.heap.size w' v' (renum g l) ∧ Below w.heap.size w w' := by
  obtain ⟨vo, vr, rfl, ho, hro⟩ := hg
  obtain ⟨ao, co, rfl, hlo⟩ := ho.slice
  obtain ⟨ar, cr, rfl, hlr⟩ := hro.slice
  obtain ⟨au, cu, rfl, hlu⟩ := hu.slice
  have Ho := Lib.hid ho
  have Hro := Lib.hid hro
  have Hu := Lib.hid hu
  have HR := Lib.hid hr
  clear ho hro hu hr
  have hmm := @run_makeMap Try.prog
  have hM0 := ((((Mem.start w).alloc #[.slice ao g.objs.length co, .slice ar g.roots.length cr] 25).allocAt (w.heap.size + 1) (by simp) #[.slice none 0 0, .slice none 0 0] 25).newMap).alloc #[.map (some (w.heap.size + 2))] 152
  have hM0b : Mem w.heap.size w ((((w.alloc (.cells #[.slice ao g.objs.length co, .slice ar g.roots.length cr] 25)).alloc (.cells #[.slice none 0 0, .slice none 0 0] 25)).alloc (.map #[] 0)).alloc (.cells #[.map (some (w.heap.size + 2))] 152))
      [ebox (w.heap.size + 3) #[.map (some (w.heap.size + 2))] 152, emap (w.heap.size + 2) 0 (at_ l 0), ebox (w.heap.size + 1) #[.slice none 0 0, .slice none 0 0] 25, ebox w.heap.size #[.slice ao g.objs.length co, .slice ar g.roots.length cr] 25] := by
    have := hM0
    simp only [World.size_alloc, Nat.add_assoc, Nat.reduceAdd] at this
    exact this
  clear hM0
  go_enter Try.func48, Try.ntmps48
  go_wp2
  go_loopw [15] (fun i wr => ∃ k : Nat, k ≤ l.length ∧ i = .int .i64 k ∧ Mem w.heap.size w wr [ebox (w.heap.size + 3) #[.map (some (w.heap.size + 2))] 152, emap (w.heap.size + 2) k (at_ l k), ebox (w.heap.size + 1) #[.slice none 0 0, .slice none 0 0] 25, ebox w.heap.size #[.slice ao g.objs.length co, .slice ar g.roots.length cr] 25])
    (fun i _ => l.length - (intOf i).toNat)
  case atStart => exact ⟨0, Nat.zero_le _, rfl, hM0b⟩
  case round =>
    obtain ⟨k, hk, rfl, hM⟩ := hrel
    have p0 : wr.cell? ⟨w.heap.size + 3, 0, none⟩ = some (.map (some (w.heap.size + 2))) := by have := hM.cell 0 rfl 0; simpa using this
    by_cases hlt : k < l.length
    · obtain ⟨x, hx⟩ := get_some _ _ hlt
      obtain ⟨bx, ox, cap2, hv, hb, hn, c1, hxi⟩ := Hu.out.at hM.below hx
      cases hv
      have HS : Hid (l.getD k 0 = x) := Lib.hid (by rw [List.getD_eq_getElem?_getD, hx]; rfl)
      have HM := Lib.hid hM
      have Hxi := Lib.hid hxi
      clear hx hM hxi
      go_wp2_with (at_mapUpdate; refine Mem.wp_put rfl _ _ _ rfl HM.out 1 rfl (by omega) rfl x k rfl rfl Hxi.out ⟨by omega, by omega⟩ ?_; intro w1 hM1)
      go_roundw
      case rel => exact ⟨k + 1, by omega, by go_num, hM1.cast (by rw [at_, HS.out]; rfl)⟩
      case measure => simp [intOf]; omega
    · obtain rfl : k = l.length := by omega
      have HM := Lib.hid hM
      have p1 : wr.cell? ⟨w.heap.size, 0, none⟩ = some (.slice ao g.objs.length co) := by have := hM.cell 3 rfl 0; simpa using this
      have p2 : wr.cell? ⟨w.heap.size, 1, none⟩ = some (.slice ar g.roots.length cr) := by have := hM.cell 3 rfl 1; simpa using this
      clear hM
      have hem := HM.out.get 1 rfl
      have hlt3 : w.heap.size + 3 < wr.heap.size := (HM.out.box 0 rfl).2.1
      go_wp2_with fail
      refine (turn_any wr _ g.roots _ _ _ _ (Hro.out.later HM.out.below) p0 hlt3 (Ent.ok_weak hem (Nat.zero_le _)) (by have := hG.roots; omega)).mono ?_
      rintro e w1 ⟨vR, rfl, hM1⟩
      obtain ⟨aR, nR, cR, rfl⟩ := hM1.isSlice 0 rfl
      have hM2 := HM.out.callMem hM1
      obtain ⟨q, hq⟩ : ∃ q, at_ l l.length = q := ⟨_, rfl⟩
      rw [hq] at hM2
      have hM3 := hM2.alloc #[.slice none 0 0, .slice aR nR cR] 25
      have hM4 : Mem w.heap.size w (w1.alloc (.cells #[.slice none 0 0, .slice aR nR cR] 25)) ([ebox w1.heap.size #[.slice none 0 0, .slice aR nR cR] 25, erow 61 1 (.slice none 0 0) 0 [], rowV 84 (.slice aR nR cR) (g.roots.map (turnV q)), ebox (w.heap.size + 3) #[.map (some (w.heap.size + 2))] 152, emap (w.heap.size + 2) l.length q, ebox (w.heap.size + 1) #[.slice none 0 0, .slice none 0 0] 25, ebox w.heap.size #[.slice ao g.objs.length co, .slice ar g.roots.length cr] 25] ++ rowsE []) :=
        (hM3.nil 61 1).pick0 [1, 0, 2, 3, 4, 5, 6] (by decide) rfl
      have Hq := Lib.hid hq
      clear hM1 hM2 hM3 hq hem
      go_wp2
      go_loopw [32] (fun i wr => ∃ (k : Nat) (vO : Value) (rows : Rws), k ≤ l.length ∧ i = .int .i64 k ∧ rows.map (·.2) = (l.take k).map (fun x => (fieldsAt g x).map (turnV q)) ∧
        Mem w.heap.size w wr ([ebox w1.heap.size #[vO, .slice aR nR cR] 25, erow 61 1 vO k (rows.map (·.1)), rowV 84 (.slice aR nR cR) (g.roots.map (turnV q)), ebox (w.heap.size + 3) #[.map (some (w.heap.size + 2))] 152, emap (w.heap.size + 2) l.length q, ebox (w.heap.size + 1) #[.slice none 0 0, .slice none 0 0] 25, ebox w.heap.size #[.slice ao g.objs.length co, .slice ar g.roots.length cr] 25] ++ rowsE rows))
        (fun i _ => l.length - (intOf i).toNat)
      case atStart => exact ⟨0, _, [], Nat.zero_le _, rfl, rfl, hM4⟩
      case round =>
        obtain ⟨k, vO, rows, hk, rfl, hrows, hM⟩ := hrel
        by_cases hlt : k < l.length
        · obtain ⟨x, hx⟩ := get_some _ _ hlt
          obtain ⟨bx, ox, cap2, hv, hb, hn, c1, hxi⟩ := Hu.out.at hM.below hx
          cases hv
          obtain ⟨hx0, hx1⟩ := HR.out x (List.mem_of_getElem? hx)
          obtain ⟨i, rfl⟩ : ∃ i : Nat, x = (i : Int) := ⟨x.toNat, by omega⟩
          have hi : i < g.objs.length := by omega
          obtain ⟨ob, hob⟩ := get_some _ _ hi
          obtain ⟨bo, oo, cap3, uo, hv2, hbo, hn3, c2, huo⟩ := Ho.out.at hM.below hob
          cases hv2
          obtain ⟨af, cf, rfl, hlf⟩ := huo.slice
          have s0 : wr.cell? ⟨w1.heap.size, 0, none⟩ = some vO := by have := hM.cell 0 rfl 0; simpa using this
          have s1 : wr.cell? ⟨w.heap.size, 0, none⟩ = some (.slice (some ⟨bo, oo, none⟩) g.objs.length co) := by have := hM.cell 6 rfl 0; simpa using this
          have s2 : wr.cell? ⟨w.heap.size + 3, 0, none⟩ = some (.map (some (w.heap.size + 2))) := by have := hM.cell 3 rfl 0; simpa using this
          have s3 : w.heap.size + 3 < wr.heap.size := (hM.box 3 rfl).2.1
          have Huo := Lib.hid (huo.later hM.below)
          have HM := Lib.hid hM
          have Hob := Lib.hid hob
          have Hx := Lib.hid hx
          have Hrows := Lib.hid hrows
          have Hem := Lib.hid (Ent.ok_weak (hM.get 4 rfl) (Nat.zero_le _))
          have hfl := hG.fields ob (List.mem_of_getElem? hob)
          clear hM hob hx hrows huo
          have hk1000 : k ≤ 1000000 := by omega
          have hgo : ob.length ≤ 1000 := by omega
          go_wp2
          go_region_law (first
            | (refine Mem.step_app1 elemObjs rfl (.tmp 37) (.tmp 47) rfl hM5 1 rfl rfl _ #[.slice aV nV cV] _ _ rfl rfl rfl rfl (by decide) hk1000 ?_
               intro ad cp w6 hM6 hs6 hk6
               have u0 : w6.cell? ⟨w1.heap.size, 0, none⟩ = some vO := by have := hM6.cell 0 rfl 0; simpa using this
               have u1 : w6.frozen? ⟨w1.heap.size, 0, none⟩ = false := hM6.free 0 rfl 0)
            | (go_simp
               refine (turn_any wr.drew _ ob _ _ _ _ Huo.out s2 s3 Hem.out hgo).mono ?_
               rintro e w4 ⟨vv, rfl, hM4⟩
               obtain ⟨aV, nV, cV, rfl⟩ := hM4.isSlice 0 rfl
               have hM5 := (HM.out.drew.callMem hM4).rowsSnoc
               have t0 : w4.cell? ⟨w1.heap.size, 0, none⟩ = some vO := by have := hM5.cell 0 rfl 0; simpa using this
               have t1 : w1.heap.size < w4.heap.size := (hM5.box 0 rfl).2.1))
          all_goals
            go_wp2
            go_roundw
            case rel =>
              refine ⟨k + 1, .slice ad (k + 1) cp, rows ++ [(.slice aV nV cV, ob.map (turnV q))], by omega, by go_num, ?_, ?_⟩
              · rw [take_succ_some _ _ _ Hx.out, List.map_append, List.map_append, Hrows.out]
                simp only [List.map_cons, List.map_nil]
                congr 2
                unfold fieldsAt
                rw [Int.toNat_natCast, List.getD_eq_getElem?_getD, Hob.out]; rfl
              · exact (hM6.setBox 0 rfl 0 (.slice ad (k + 1) cp)).cast (by simp)
            case measure => simp [intOf]; omega
        · obtain rfl : k = l.length := by omega
          rw [List.take_length] at hrows
          obtain ⟨aO, nO, cO, rfl⟩ := hM.isSlice 1 rfl
          have s0 : wr.cell? ⟨w1.heap.size, 0, none⟩ = some (.slice aO nO cO) := by have := hM.cell 0 rfl 0; simpa using this
          have s1 : wr.cell? ⟨w1.heap.size, 1, none⟩ = some (.slice aR nR cR) := by have := hM.cell 0 rfl 1; simpa using this
          have s2 : wr.cell? ⟨w.heap.size + 1, 0, none⟩ = some (.slice none 0 0) := by have := hM.cell 5 rfl 0; simpa using this
          have s3 : wr.cell? ⟨w.heap.size + 1, 1, none⟩ = some (.slice none 0 0) := by have := hM.cell 5 rfl 1; simpa using this
          have s4 : wr.frozen? ⟨w.heap.size + 1, 0, none⟩ = false := hM.free 5 rfl 0
          have s5 : wr.frozen? ⟨w.heap.size + 1, 1, none⟩ = false := hM.free 5 rfl 1
          have s6 : w.heap.size + 1 < wr.heap.size := (hM.box 5 rfl).2.1
          have hM6 := (hM.setBox 5 rfl 0 (.slice aO nO cO)).setBox 5 rfl 1 (.slice aR nR cR)
          have Hrows := Lib.hid hrows
          have HM6 := Lib.hid hM6
          clear hM hM6 hrows
          go_wp2
          obtain ⟨W6, hW6⟩ : ∃ W6, W6 = (wr.setCell ⟨w.heap.size + 1, 0, none⟩ (.slice aO nO cO)).setCell ⟨w.heap.size + 1, 1, none⟩ (.slice aR nR cR) := ⟨_, rfl⟩
          have hM7 := HM6.out
          rw [← hW6] at hM7 ⊢
          have r0 : W6.cell? ⟨w.heap.size + 1, 0, none⟩ = some (.slice aO nO cO) := by have := hM7.cell 5 rfl 0; simpa using this
          have r1 : W6.cell? ⟨w.heap.size + 1, 1, none⟩ = some (.slice aR nR cR) := by have := hM7.cell 5 rfl 1; simpa using this
          refine bodyPost_ret (v := .agg #[.slice aO nO cO, .slice aR nR cR]) (by simp [results, Try.results48, go_sem, r0, r1]) rfl ⟨_, rfl, ?_, hM7.below⟩
          intro W' hs' hb'
          have hM9 := hM7.move hs' hb'
          have hM8 : Mem w.heap.size W' W' (rowsE rows) := hM9.drop (List.sublist_append_right [_, _, _, _, _, _, _] _)
          refine ⟨⟨_, _, rfl, ?_, ?_⟩, ⟨_, _, rfl, ?_⟩⟩
          · have hlen : rows.length = l.length := by have := congrArg List.length Hrows.out; simpa using this
            have h2 := isObjs_of_own (hM9.row 1 rfl) (by omega) (fun r hr => hM8.isValsM (e := 84) (List.mem_map.2 ⟨r, hr, rfl⟩) ?_ ?_)
            · rw [Hrows.out, ← Hq.out] at h2; exact h2
            · have h3 : r.2 ∈ rows.map (·.2) := List.mem_map.2 ⟨r, hr, rfl⟩
              rw [Hrows.out] at h3
              obtain ⟨x, _, he⟩ := List.mem_map.1 h3
              rw [← he, List.length_map]; have := hG.flen x; omega
            · have h3 : r.2 ∈ rows.map (·.2) := List.mem_map.2 ⟨r, hr, rfl⟩
              rw [Hrows.out] at h3
              obtain ⟨x, _, he⟩ := List.mem_map.1 h3
              intro y hy
              rw [← he] at hy
              obtain ⟨z, hz, rfl⟩ := List.mem_map.1 hy
              rw [← Hq.out]
              exact turnV_ok hG l hl (fields_all g x z hz)
          · have h2 := hM9.isVals 2 rfl (by rw [List.length_map]; have := hG.roots; omega) (by
              intro y hy
              obtain ⟨z, hz, rfl⟩ := List.mem_map.1 hy
              rw [← Hq.out]
              exact turnV_ok hG l hl (roots_all g z hz))
            rw [← Hq.out] at h2; exact h2
          · have hlen : rows.length = l.length := by have := congrArg List.length Hrows.out; simpa using this
            refine roomO_of_own (hM9.row 1 rfl) (by simp [renum, hlen]) fun r hr => ?_
            obtain ⟨q, hq, he⟩ := List.getElem_of_mem (show rowV 84 r.1 r.2 ∈ rowsE rows from List.mem_map.2 ⟨r, hr, rfl⟩)
            exact room_own (hM8.row q (by rw [List.getElem?_eq_getElem hq, he]; rfl))
end Go.Proofs.Ytjnbnfmlpdnngaa
