/- The climber's enter, back and way, walked. -/
import Derived.Test.YtgdodbdipbomfaaKb
import Derived.Test.YtgdodbdipbomfaaSj
import Derived.Test.YtgdodbdipbomfaaSk
import Derived.Test.YtgdodbdipbomfaaBase3
namespace Go.Proofs.Ytgdodbdipbomfaa
open Go.RowKit Go.Shelf Go.Maps

def ownV (bC bm : Nat) (wv ov : Value) (os : List Ob) (M : List Int) (D : Int → Nat) (T : List Int) (nm : Nat) (f : Int → Option Value) : List Ent :=
  [ebox bC #[wv, .map (some bm), ov] 77, rowW 60 wv (wT os M D T), gmap mapII bm nm f, rowI 3 ov (M.map (plS os))]
set_option maxHeartbeats 400000 in
theorem back_any (n : Nat) (w : World) (h : n ≤ 256) :
    Calls Try.prog 76 #[.int .i64 ((n : Int) - 1)] w fun e w' => e = .returned (.int .u64 ((n : Int) * 2)) ∧ w' = w := by
  have e1 : IntKind.i64.wrap ((n : Int) - 1 + 1) = n := by rw [IntWalk.i64_in _ (by omega)]; omega
  have e2 : (n : Int) - 1 + 1 = n := by omega
  go_enter Try.func76, Try.ntmps76
  go_wp2
  go_ret
  exact ⟨rfl, rfl⟩
set_option maxHeartbeats 400000 in
theorem way_any (n : Nat) (w : World) (h : n ≤ 257) :
    Calls Try.prog 77 #[.int .u64 ((n : Int) * 2)] w fun e w' => e = .returned (.int .i64 ((n : Int) - 1)) ∧ w' = w := by
  go_enter Try.func77, Try.ntmps77
  go_wp2
  go_ret
  exact ⟨rfl, rfl⟩
set_option maxRecDepth 100000 in
set_option maxHeartbeats 2000000 in
theorem enter_any (w0 w : World) (bC bm : Nat) (g n cw : Nat) (ov : Value) (ws : List Int) (os : List Ob) (M : List Int) (D : Int → Nat) (T : List Int) (nm : Nat) (f : Int → Option Value) (L : List Ent) (i : Nat) (hL : Laid ws os) (hn : ws.length = n)
    (hi : i < os.length) (hMl : M.length ≤ 1000) (hM : Mem w0.heap.size w0 w (ownV bC bm (.slice (some ⟨g, 0, none⟩) n cw) ov os M D T nm f ++ L)) :
    Calls Try.prog 75 #[.pointer (some ⟨bC, 0, none⟩), .int .i64 (place os i : Nat)] w fun e w' => e = .returned (.tuple #[]) ∧ ∃ ov', Mem w0.heap.size w0 w' (ownV bC bm (.slice (some ⟨g, 0, none⟩) n cw) ov' os (M ++ [(i : Int)]) D T nm f ++ L) := by
  have hgd := (hd_good hL hi).1
  obtain ⟨o, ho⟩ := get_some os i hi
  have hft := hL.fit ho
  have hh := wT_head os M D T hi
  have hmk := wT_enter os M D T hi
  obtain ⟨q, hq⟩ : ∃ q, place os i = q := ⟨_, rfl⟩
  rw [hq] at hh hft hmk ⊢
  have hM0 := hM
  unfold ownV at hM
  have hfl := wT_len os M D T
  rw [← hL.1, hn] at hfl
  obtain ⟨g', cw', hv, hg, d1, f1⟩ := hM.wordsAt 1 rfl hh
  rw [hfl] at hv
  cases hv
  obtain ⟨sa, sc, rfl⟩ := own_row (hM.row 3 rfl)
  rw [List.length_map] at hM hM0
  obtain ⟨m, hml⟩ : ∃ m, M.length = m := ⟨_, rfl⟩
  rw [hml] at hM hM0 hMl
  have hqn : q < n := by omega
  have hqn2 : (q : Int) < n := by omega
  obtain ⟨h, hhe⟩ : ∃ h, hdM os M i = h := ⟨_, rfl⟩
  rw [hhe] at d1
  have hhd : isHead h := by rw [← hhe]; exact (hdS_parts hgd _).2.2.2.1
  have e0 : w.cell? ⟨bC, 0, none⟩ = some (.slice (some ⟨g, 0, none⟩) n cw) := by have := hM.cell 0 rfl 0; simpa using this
  have ez : bC < w.heap.size := (hM.box 0 rfl).2.1
  have hs1 : hdS h true = hdS (obj os i).1 true := by rw [← hhe]; exact hdS_twice hgd _ _
  rw [← hs1] at hmk
  obtain ⟨y, hy⟩ : ∃ y, hdS h true = y := ⟨_, rfl⟩
  rw [hy] at hmk
  have HSet : Hid (∀ X, Calls Try.prog 74 #[.int .u64 h, .bool true] X fun e w' => e = .returned (.int .u64 y) ∧ w' = X) := Lib.hid (fun X => by
    have := mset_any h true X hhd
    rwa [hy] at this)
  have HM := Lib.hid hM0
  have Hmk := Lib.hid hmk
  have Hfl := Lib.hid hfl
  have Hml := Lib.hid hml
  have Hpl : Hid (plS os (i : Int) = q) := Lib.hid (by unfold plS; rw [Int.toNat_natCast, hq])
  clear hM hM0 hL hn hgd ho hft hh hmk hq hfl hml hhe hhd hs1 hy hi
  have c0 : w.drew.cell? ⟨bC, 0, none⟩ = some (.slice (some ⟨g, 0, none⟩) n cw) := e0
  have c1 : w.drew.cell? ⟨g, q, none⟩ = some (.int .u64 h) := d1
  go_enter Try.func75, Try.ntmps75
  go_wp2
  go_cut [1] (fun s1 W => s1 = .int .i64 q ∧ Mem w0.heap.size w0 W ([ebox bC #[.slice (some ⟨g, 0, none⟩) n cw, .map (some bm), .slice sa m sc] 77, rowW 60 (.slice (some ⟨g, 0, none⟩) n cw) (wT os (M ++ [(i : Int)]) D T), gmap mapII bm nm f, rowI 3 (.slice sa m sc) (M.map (plS os))] ++ L))
  case first =>
    go_region_law (first
      | (go_simp
         refine (HSet.out _).mono ?_
         rintro e w2 ⟨rfl, rfl⟩))
    all_goals
      go_wp2_with fail
      go_meet
      refine ⟨rfl, ?_⟩
      have hz := ((HM.out.setW 1 rfl Hfl.out q y).drew)
      rw [Hmk.out] at hz
      exact hz
  case rest =>
    clear e0 d1 f1 c0 c1 HM ez HSet
    obtain ⟨rfl, hM⟩ := hcut
    have c2 : wc.cell? ⟨bC, 2, none⟩ = some (.slice sa m sc) := by have := hM.cell 0 rfl 2; simpa using this
    have cz : bC < wc.heap.size := (hM.box 0 rfl).2.1
    have HM := Lib.hid hM
    have hml : (M.map (plS os)).length ≤ 1000000 := by rw [List.length_map, Hml.out]; omega
    clear hM
    go_wp2_with (at_builtin; refine Mem.wp_appI elemInts rfl (.tmp 22) (.tmp 24) rfl HM.out 3 rfl rfl _ (q : Int) _ _ rfl rfl hml ?_; intro ad n1 cp w6 hn1 hM6 hs6 hk6 ha6; have p2 : w6.cell? ⟨bC, 2, none⟩ = some (.slice sa m sc) := (by have := hM6.cell 0 rfl 2; simpa using this); have p3 : w6.frozen? ⟨bC, 2, none⟩ = false := hM6.free 0 rfl 2)
    refine bodyPost_end (results_none rfl _ _ _) rfl ?_
    refine ⟨rfl, .slice ad n1 cp, ?_⟩
    exact (hM6.setBox 0 rfl 2 (.slice ad n1 cp)).cast (by simp [ownV, Hpl.out])
def Tab (os : List Ob) (D : Int → Nat) (f : Int → Option Value) : Prop := ∀ k : Nat, k < os.length → (f (place os k : Nat)).getD (.int .i64 0) = .int .i64 (D k : Nat)
theorem Tab.put {os : List Ob} {D : Int → Nat} {f : Int → Option Value} (h : Tab os D f) {k : Nat} (hk : k < os.length) : Tab os (inc D k) (fun u => if u = (place os k : Nat) then some (.int .i64 ((D k : Int) + 1)) else f u) := by
  intro j hj
  by_cases e : j = k
  · subst e
    simp only [if_pos, Option.getD_some, inc_self]; rfl
  · have hne : ¬ ((place os j : Nat) : Int) = (place os k : Nat) := by
      intro e2; exact e (place_inj hj hk (by omega))
    simp only [if_neg hne]
    rw [inc_ne D (by omega)]; exact h j hj
end Go.Proofs.Ytgdodbdipbomfaa
