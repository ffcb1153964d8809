/- graph.values: its iterator's contract. -/
import Derived.Test.YtnpbdabboecpaaaIa
namespace Go.Proofs.Ytnpbdabboecpaaa
open Go.RowKit Go.Shelf

attribute [local go_sem] Oper.semAt_some

/-- One of the values of a graph. -/
abbrev Vg (g : G) := { x : V // x ∈ allV g }

theorem len_pre {g : G} {pre : List (Vg g)} {l : List V} (h : pre.map (·.1) = l) (hl : l.length ≤ (allV g).length) : pre.length < (allV g).length + 1 := by
  have : pre.length = l.length := by rw [← h, List.length_map]
  omega
theorem mem_roots {g : G} {x : V} (h : x ∈ g.roots) : x ∈ allV g := List.mem_append_left _ h
theorem mem_fields {g : G} {o : List V} {x : V} (ho : o ∈ g.objs) (h : x ∈ o) : x ∈ allV g := List.mem_append_right _ (List.mem_flatten.2 ⟨o, ho, h⟩)
theorem pref_roots (g : G) (k : Nat) : g.roots.take k <+: allV g := (List.take_prefix _ _).trans (List.prefix_append _ _)
theorem pref_objs (g : G) (j : Nat) : g.roots ++ (g.objs.take j).flatten <+: allV g := by
  unfold allV
  refine (List.prefix_append_right_inj _).2 ?_
  conv => rhs; rw [← List.take_append_drop j g.objs, List.flatten_append]
  exact List.prefix_append _ _
theorem pref_fields (g : G) (j k : Nat) (o : List V) (h : g.objs[j]? = some o) : g.roots ++ (g.objs.take j).flatten ++ o.take k <+: allV g := by
  refine List.IsPrefix.trans ?_ (pref_objs g (j + 1))
  rw [take_succ_some _ _ _ h, List.flatten_append, ← List.append_assoc]
  refine (List.prefix_append_right_inj _).2 ?_
  simpa using List.take_prefix k o

set_option maxRecDepth 100000 in
set_option maxHeartbeats 4000000 in
theorem values1_in (n : Nat) (hn : 1 ≤ n) (lp Bs : Nat) (g : G) (vo vr : Value) (w0 : World) (ho : IsObjs w0 vo g.objs) (hr : IsVals w0 vr g.roots) (J Jx : List (Vg g) → World → Prop) (W0 : World)
    (hJ : AbidesFrom W0.heap.size J)
    (hY : ∀ pre x W, J pre W → pre.length < (allV g).length + 1 → YieldAt Fence.wide (n - 1) Try.prog lp #[.agg #[.bool x.1.ref, .int .i64 x.1.n]] W fun e W' =>
      (e = .returned (.bool true) ∧ J (pre ++ [x]) W' ∧ Below (w0.heap.size + 1) W W') ∨ (e = .returned (.bool false) ∧ Jx (pre ++ [x]) W'))
    (hW : Below w0.heap.size w0 W0) (hsz : w0.heap.size < W0.heap.size) (hBs : Bs = w0.heap.size) (hBo : W0.cell? ⟨Bs, 0, none⟩ = some vo) (hBr : W0.cell? ⟨Bs, 1, none⟩ = some vr) (h0 : J [] W0) :
    CallsIn Fence.wide n Try.prog 62 #[.func (.yield lp) #[] #[], .pointer (some ⟨Bs, 0, none⟩)] W0 fun e W' => (∃ v, e = .returned v) ∧
      ((∃ ys : List (Vg g), ys.map (·.1) = allV g ∧ J ys W') ∨ (∃ pre : List (Vg g), pre.map (·.1) <+: allV g ∧ Jx pre W')) := by
  obtain ⟨ao, co, rfl, hlo⟩ := ho.slice
  obtain ⟨ar, cr, rfl, hlr⟩ := hr.slice
  have Ho := Lib.hid ho
  have Hr := Lib.hid hr
  have HBs := Lib.hid hBs
  clear ho hr hBs
  refine callsIn_of_wp Try.func62 rfl trivial ?_ rfl
  simp only [Try.ntmps62, List.size_toArray, List.length_cons, List.length_nil, Nat.reduceAdd, Nat.reduceSub, Array.replicate_succ, Array.replicate_zero, List.push_toArray, List.append_toArray, List.nil_append, List.cons_append]
  gi_wp2
  gi_loopw [12] (fun i wr => ∃ (k : Nat) (pre : List (Vg g)), k ≤ g.roots.length ∧ i = .int .i64 k ∧ pre.map (·.1) = g.roots.take k ∧ J pre wr ∧ Below (w0.heap.size + 1) W0 wr)
    (fun i _ => g.roots.length - (intOf i).toNat)
  case atStart => exact ⟨0, [], Nat.zero_le _, rfl, rfl, h0, Below.refl _ _⟩
  case round =>
    obtain ⟨k, pre, hk, rfl, hpre, hJs, hB⟩ := hrel
    have Hpre := Lib.hid hpre
    clear hpre
    have hB0 : Below w0.heap.size w0 wr := hW.trans (hB.mono (by omega))
    by_cases hlt : k < g.roots.length
    · obtain ⟨x, hx⟩ := get_some _ _ hlt
      obtain ⟨b, off, cap2, hv, hb, hn2, c1, c2, _⟩ := Hr.out.at hB0 hx
      cases hv
      have HS := Lib.hid (take_succ_some _ _ _ hx)
      obtain ⟨xx, hxx⟩ : ∃ xx : Vg g, xx.1 = x := ⟨⟨x, mem_roots (List.mem_of_getElem? hx)⟩, rfl⟩
      clear hx
      have hJ2 := hJ pre wr (wr.alloc (.cells #[.bool x.ref, .int .i64 x.n] 60)) none hJs (World.grownBy_alloc wr _ none) (fun r e => by cases e)
      have hlen : pre.length < (allV g).length + 1 := len_pre Hpre.out (pref_roots g k).length_le
      have hpre2 : (pre ++ [xx]).map (·.1) = g.roots.take (k + 1) := by rw [List.map_append, Hpre.out, HS.out]; simp [hxx]
      have Hp2 := Lib.hid hpre2
      obtain ⟨fn, tmps, assign, body, hy, hR⟩ := hY pre xx _ hJ2 hlen
      rw [hxx] at hy
      clear hxx hpre2
      gi_wp2
      refine hR.mono ?_
      rintro e W3 (⟨rfl, hJ3, hk3⟩ | ⟨rfl, hJx3⟩)
      · gi_wp2
        go_roundw
        case rel => exact ⟨k + 1, _, by omega, by go_num, Hp2.out, hJ3, (hB.alloc (Nat.le_trans (Nat.succ_le_of_lt hsz) hB.size) _).trans hk3⟩
        case measure => simp [intOf]; omega
      · gi_wp2
        refine bodyPost_ret (results_none rfl _ _ _) rfl ?_
        exact ⟨⟨_, rfl⟩, .inr ⟨_, by rw [Hp2.out]; exact pref_roots _ _, hJx3⟩⟩
    · obtain rfl : k = g.roots.length := by omega
      have q0 : wr.cell? ⟨Bs, 0, none⟩ = some (.slice ao g.objs.length co) := (hB.cell (p := ⟨Bs, 0, none⟩) (by rw [HBs.out]; exact Nat.lt_succ_self _)).trans hBo
      have hall : pre.map (·.1) = g.roots ++ (g.objs.take 0).flatten := by have := Hpre.out; rw [List.take_length] at this; simpa using this
      have Hall := Lib.hid hall
      clear hall
      gi_wp2
      gi_loopw [24] (fun i wr => ∃ (j : Nat) (pre : List (Vg g)), j ≤ g.objs.length ∧ i = .int .i64 j ∧ pre.map (·.1) = g.roots ++ (g.objs.take j).flatten ∧ J pre wr ∧ Below (w0.heap.size + 1) W0 wr)
        (fun i _ => g.objs.length - (intOf i).toNat)
      case atStart => exact ⟨0, pre, Nat.zero_le _, rfl, Hall.out, hJs, hB⟩
      case round =>
        obtain ⟨j, pre, hj, rfl, hpre, hJs, hB⟩ := hrel
        have Hpre := Lib.hid hpre
        clear hpre
        have hB0 : Below w0.heap.size w0 wr := hW.trans (hB.mono (by omega))
        by_cases hlt : j < g.objs.length
        · obtain ⟨o, hx⟩ := get_some _ _ hlt
          obtain ⟨b, off, cap, u, hv, hb, hn2, c1, hu⟩ := Ho.out.at hB0 hx
          cases hv
          obtain ⟨ao2, co2, rfl, hlo2⟩ := hu.slice
          have HS := Lib.hid (take_succ_some _ _ _ hx)
          have HU := Lib.hid hu
          have Hx := Lib.hid hx
          clear hx hu
          have hJ2 := fun o => hJ pre wr (wr.alloc o) none hJs (World.grownBy_alloc wr o none) (fun r e => by cases e)
          have hB2 := fun o => hB.alloc (Nat.le_trans (Nat.succ_le_of_lt hsz) hB.size) o
          gi_wp2
          gi_loopw [31] (fun i wr => ∃ (k : Nat) (pre : List (Vg g)), k ≤ o.length ∧ i = .int .i64 k ∧ pre.map (·.1) = g.roots ++ (g.objs.take j).flatten ++ o.take k ∧ J pre wr ∧ Below (w0.heap.size + 1) W0 wr)
            (fun i _ => o.length - (intOf i).toNat)
          case atStart => exact ⟨0, pre, Nat.zero_le _, rfl, by simpa using Hpre.out, hJ2 _, hB2 _⟩
          case round =>
            obtain ⟨k, pre, hk, rfl, hpre, hJs, hB⟩ := hrel
            have Hpre := Lib.hid hpre
            clear hpre
            have hB0 : Below w0.heap.size w0 wr := hW.trans (hB.mono (by omega))
            by_cases hlt : k < o.length
            · obtain ⟨x, hx⟩ := get_some _ _ hlt
              obtain ⟨b, off, cap2, hv, hb, hn2, c1, c2, _⟩ := HU.out.at hB0 hx
              cases hv
              have HS := Lib.hid (take_succ_some _ _ _ hx)
              obtain ⟨xx, hxx⟩ : ∃ xx : Vg g, xx.1 = x := ⟨⟨x, mem_fields (List.mem_of_getElem? Hx.out) (List.mem_of_getElem? hx)⟩, rfl⟩
              clear hx
              have hJ2 := hJ pre wr (wr.alloc (.cells #[.bool x.ref, .int .i64 x.n] 60)) none hJs (World.grownBy_alloc wr _ none) (fun r e => by cases e)
              have hlen : pre.length < (allV g).length + 1 := len_pre Hpre.out (pref_fields g j k o Hx.out).length_le
              have hpre2 : (pre ++ [xx]).map (·.1) = g.roots ++ (g.objs.take j).flatten ++ o.take (k + 1) := by rw [List.map_append, Hpre.out, HS.out]; simp [hxx]
              have Hp2 := Lib.hid hpre2
              obtain ⟨fn, tmps, assign, body, hy, hR⟩ := hY pre xx _ hJ2 hlen
              rw [hxx] at hy
              clear hxx hpre2
              gi_wp2
              refine hR.mono ?_
              rintro e W3 (⟨rfl, hJ3, hk3⟩ | ⟨rfl, hJx3⟩)
              · gi_wp2
                go_roundw
                case rel => exact ⟨k + 1, _, by omega, by go_num, Hp2.out, hJ3, (hB.alloc (Nat.le_trans (Nat.succ_le_of_lt hsz) hB.size) _).trans hk3⟩
                case measure => simp [intOf]; omega
              · gi_wp2
                refine bodyPost_ret (results_none rfl _ _ _) rfl ?_
                exact ⟨⟨_, rfl⟩, .inr ⟨_, by rw [Hp2.out]; exact pref_fields g j (k + 1) o Hx.out, hJx3⟩⟩
            · obtain rfl : k = o.length := by omega
              have hall : pre.map (·.1) = g.roots ++ (g.objs.take (j + 1)).flatten := by rw [Hpre.out, HS.out]; simp
              have Hall := Lib.hid hall
              clear hall
              gi_wp2
              go_roundw
              case rel => exact ⟨j + 1, _, by omega, by go_num, Hall.out, hJs, hB⟩
              case measure => simp [intOf]; omega
        · obtain rfl : j = g.objs.length := by omega
          have hall : pre.map (·.1) = allV g := by have := Hpre.out; rwa [List.take_length] at this
          have Hall := Lib.hid hall
          clear hall
          gi_wp2
          go_end0
          exact ⟨⟨_, rfl⟩, .inl ⟨_, Hall.out, hJs⟩⟩
end Go.Proofs.Ytnpbdabboecpaaa
