/- trial.take, walked. -/
import Derived.Test.YtdmgpiimacnapaaTa
import Derived.Test.YtdmgpiimacnapaaTz
import Derived.Laws.EntriesVeiled
namespace Go.Proofs.Ytdmgpiimacnapaa
open Go.RowKit Go.Shelf

attribute [local go_sem] Oper.semAt_some

theorem sum_four (n : Nat) (f : Nat → Nat) (h : ∀ k, f k ≤ 4) : ((List.range n).map f).sum ≤ 4 * n := by
  induction n with
  | zero => simp
  | succ n ih =>
    rw [List.range_succ, List.map_append, List.sum_append]
    simp only [List.map_cons, List.map_nil, List.sum_cons, List.sum_nil, Nat.add_zero]
    have := h n
    omega
theorem count_four {g : G} (hG : Good g) (i : Nat) (j : Int) : (targets (fieldsAt g i)).count j ≤ 4 := by
  have h1 : (fieldsAt g i).length ≤ 4 := by
    unfold fieldsAt
    rw [List.getD_eq_getElem?_getD]
    cases h : g.objs[(i : Int).toNat]? with
    | none => simp
    | some o => exact hG.fields o (List.mem_of_getElem? h)
  have h2 : (targets (fieldsAt g i)).length ≤ (fieldsAt g i).length := by
    unfold targets; rw [List.length_map]; exact List.length_filter_le _ _
  have := List.count_le_length (a := j) (l := targets (fieldsAt g i))
  omega
theorem cntOut_le {g : G} (hG : Good g) (st : List Int) (j : Int) : cntOut g st j ≤ 96 := by
  have h1 := sum_four g.objs.length (fun (i : Nat) => if st.getD i 0 = 1 then (targets (fieldsAt g i)).count j else 0) (by
    intro k
    have := count_four hG k j
    split <;> omega)
  have := hG.objs
  unfold cntOut
  omega
/-- How many are not tried yet. -/
def rest (st : List Int) : Nat := st.countP (fun x => x != 1)
theorem rest_set (st : List Int) {i : Nat} {x : Int} (hi : st[i]? = some x) (hx : x ≠ 1) : rest (st.set i 1) + 1 = rest st := by
  induction st generalizing i with
  | nil => simp at hi
  | cons a l ih =>
    cases i with
    | zero =>
      simp at hi; subst hi
      simp [rest, hx]
    | succ i =>
      simp at hi
      have := ih hi
      simp only [rest, List.set_cons_succ, List.countP_cons] at this ⊢
      omega
/-- What stands around a test's walk. -/
structure TryEnv where
  g : G
  w0 : World
  vo : Value
  vr : Value
  Bt : Nat
  gS : Nat
  gF : Nat
structure TryEnv.Ok (E : TryEnv) : Prop where
  good : Good E.g
  objs : IsObjs E.w0 E.vo E.g.objs
@[reducible] def TryEnv.vS (E : TryEnv) : Value := .slice (some ⟨E.gS, 0, none⟩) E.g.objs.length E.g.objs.length
@[reducible] def TryEnv.vF (E : TryEnv) : Value := .slice (some ⟨E.gF, 0, none⟩) E.g.objs.length E.g.objs.length
@[reducible] def TryEnv.own (E : TryEnv) (s : List Int × List Int) (L' : List Ent) : List Ent := ebox E.Bt #[E.vo, E.vr, E.vS, E.vF] 83 :: rowI 3 E.vS s.1 :: rowI 3 E.vF s.2 :: L'
/-- What a call may ask: lengths, and bounds on what is left. -/
structure TryPre (g : G) (s : List Int × List Int) : Prop where
  lenS : s.1.length = g.objs.length
  lenF : s.2.length = g.objs.length
  lo : ∀ j : Nat, j < g.objs.length → 5 * (rest s.1 : Nat) - 1000 ≤ s.2.getD j 0 + (cntOut g s.1 j : Nat)
  hi : ∀ j : Nat, j < g.objs.length → s.2.getD j 0 + (cntOut g s.1 j : Nat) + 5 * (rest s.1 : Nat) ≤ 1000
theorem rest_mono : ∀ (a b : List Int), b.length = a.length → (∀ j : Nat, a.getD j 0 = 1 → b.getD j 0 = 1) → rest b ≤ rest a
  | [], [], _, _ => Nat.le_refl _
  | [], _ :: _, h, _ => by simp at h
  | _ :: _, [], h, _ => by simp at h
  | x :: a, y :: b, h, hs => by
    have ih := rest_mono a b (by simpa using h) (fun j hj => by simpa using hs (j + 1) (by simpa using hj))
    have h0 := hs 0
    simp only [List.getD_cons_zero] at h0
    simp only [rest, List.countP_cons] at ih ⊢
    by_cases hx : x = 1
    · have hy := h0 hx
      simp [hx, hy]; exact ih
    · have : (x != 1) = true := by simpa using hx
      rw [this]
      split <;> simp <;> omega
/-- In the midst of a new one's targets. -/
theorem TryPre.body {g : G} (hG : Good g) {s s1 : List Int × List Int} {x z : Nat} {y y1 : Int} {pre : List Int} (hP : TryPre g s) (hx : s.1[x]? = some y) (hy : y ≠ 1)
    (hT : pre.length ≤ 4) (h : TakeS g (s.1.set x 1, s.2) s1 pre (fun j => pre.count j)) (hz : s1.2[z]? = some y1) :
    -2000 ≤ y1 ∧ y1 ≤ 2000 ∧ TryPre g (s1.1, s1.2.set z (y1 - 1)) ∧ rest s1.1 < rest s.1 := by
  have hxl : x < s.1.length := (List.getElem?_eq_some_iff.1 hx).1
  have hzl : z < s1.2.length := (List.getElem?_eq_some_iff.1 hz).1
  have hl1 : s1.1.length = g.objs.length := by rw [h.len]; simp [hP.lenS]
  have hl2 : s1.2.length = g.objs.length := by rw [h.lenF]; exact hP.lenF
  have hx0 : s.1.getD x 0 ≠ 1 := by rw [List.getD_eq_getElem?_getD, hx]; exact hy
  have hr1 := rest_set s.1 hx hy
  have hr2 : rest s1.1 ≤ rest (s.1.set x 1) := by
    refine rest_mono _ _ h.len fun j hj => ?_
    have := h.sub (j : Int) ⟨by omega, by simpa using hj⟩
    simpa using this.2
  have hz1 : s1.2.getD z 0 = y1 := by rw [List.getD_eq_getElem?_getD, hz]; rfl
  have key : ∀ j : Nat, j < g.objs.length → s1.2.getD j 0 + (cntOut g s1.1 j : Nat) + (pre.count (j : Int) : Nat) = s.2.getD j 0 + (cntOut g s.1 j : Nat) + ((targets (fieldsAt g x)).count (j : Int) : Nat) := by
    intro j hj
    have h3 := h.sums j hj
    simp only at h3
    rw [cntOut_set g hP.lenS hxl hx0] at h3
    omega
  have hcnt : ∀ j : Nat, pre.count (j : Int) ≤ 4 := fun j => Nat.le_trans List.count_le_length hT
  have hzn : z < g.objs.length := by omega
  have k1 := key z hzn
  have k2 := hcnt z
  rw [hz1] at k1
  have k3 := hP.lo z hzn
  have k4 := hP.hi z hzn
  have k5 := cntOut_le hG s1.1 z
  have k6 := count_four hG x z
  refine ⟨by omega, by omega, ⟨hl1, by simp [hl2], ?_, ?_⟩, by omega⟩
  · intro j hj
    have k1 := key j hj
    have k2 := hcnt j
    have k3 := hP.lo j hj
    simp only
    rw [getD_put s1.2 hzl]
    by_cases e : j = z
    · subst e
      rw [if_pos rfl]
      omega
    · rw [if_neg e]
      omega
  · intro j hj
    have k1 := key j hj
    have k2 := hcnt j
    have k4 := hP.hi j hj
    have k6 := count_four hG x j
    simp only
    rw [getD_put s1.2 hzl]
    by_cases e : j = z
    · subst e
      rw [if_pos rfl]
      omega
    · rw [if_neg e]
      omega
def TakeSays (E : TryEnv) (s : List Int × List Int) (x : Int) (L' : List Ent) (w w' : World) (e : Ending) : Prop :=
  ∃ s', e = .returned (.tuple #[]) ∧ TakeS E.g s s' [x] (fun _ => 0) ∧ Mem E.w0.heap.size E.w0 w' (E.own s' L') ∧ KeepsOthers w w'
def TakeC (E : TryEnv) (m : Nat) : Prop := ∀ (s : List Int × List Int) (x : Nat) (w : World) (L' : List Ent), TryPre E.g s → rest s.1 ≤ m → x < E.g.objs.length →
  Mem E.w0.heap.size E.w0 w (E.own s L') → CallsIn Fence.wide 10 Try.prog 53 #[.pointer (some ⟨E.Bt, 0, none⟩), .int .i64 (x : Int)] w fun e w' => TakeSays E s x L' w w' e
end Go.Proofs.Ytdmgpiimacnapaa
