/- comps.Comps, walked: what it holds. -/
import Derived.Test.YtnpbdabboecpaaaN5
import Derived.Test.YtnpbdabboecpaaaO2
import Derived.Test.YtnpbdabboecpaaaO3
import Derived.Test.YtnpbdabboecpaaaGc
import Derived.Deep.LoopGhost
import Derived.Deep.QuietTactic
import Derived.BigQuiet
namespace Go.Proofs.Ytnpbdabboecpaaa
open Go.RowKit Go.Shelf Tarj

attribute [local go_sem] Oper.semAt_some

theorem mem_val {ob : List V} {l : List (Tg ob)} {b : Int} : b ∈ l.map (·.1) ↔ ∃ h, (⟨b, h⟩ : Tg ob) ∈ l := by
  rw [List.mem_map]
  constructor
  · rintro ⟨⟨x, hx⟩, h1, rfl⟩; exact ⟨hx, h1⟩
  · rintro ⟨h, h1⟩; exact ⟨_, h1, rfl⟩
/-- What Comps holds. -/
@[reducible] def cmE (b5 b6 Bs gN K : Nat) (S : Array Value) (vC va : Value) (comp : List Int) (fs : List (Value × List Int)) (ms : List (Option MapR)) (T : List Ent) : List Ent :=
  ebox b5 #[.pointer (some ⟨Bs, 0, none⟩)] 62 :: ebox b6 #[.slice (some ⟨gN, 0, none⟩) K K] 64 :: ebox Bs S 66 :: rowI 3 vC comp :: rowR va (fs.map (·.1)) ::
    rowM (.slice (some ⟨gN, 0, none⟩) K K) (ms.map mval) :: (mapsE ms ++ T)
/-- What lies in a map, or in none. -/
def cont : Option MapR → Int → Prop
  | none, _ => False
  | some m, x => m.f x ≠ none
/-- Each component's map has those that its seen references lead to. -/
def NeedS (comp : Int → Int) (Sn : Int → Int → Prop) (ms : List (Option MapR)) : Prop :=
  ∀ (c : Nat) (r : Option MapR), ms[c]? = some r → ∀ x, cont r x ↔ x ≠ (c : Int) ∧ ∃ i j, Sn i j ∧ comp i = (c : Int) ∧ comp j = x
theorem NeedS.congr {comp : Int → Int} {S S' : Int → Int → Prop} {ms : List (Option MapR)} (h : NeedS comp S ms) (hs : ∀ i j, S i j ↔ S' i j) : NeedS comp S' ms := by
  intro c r hr x
  rw [h c r hr x]
  constructor
  · rintro ⟨h1, i, j, h2, h3⟩; exact ⟨h1, i, j, (hs i j).1 h2, h3⟩
  · rintro ⟨h1, i, j, h2, h3⟩; exact ⟨h1, i, j, (hs i j).2 h2, h3⟩
/-- A new map for a component that had none. -/
theorem NeedS.fresh {comp : Int → Int} {S : Int → Int → Prop} {ms : List (Option MapR)} (h : NeedS comp S ms) {c b n : Nat} (hc : ms[c]? = some none) : NeedS comp S (ms.set c (some ⟨b, n, fun _ => none⟩)) := by
  intro d r hr x
  by_cases e : d = c
  · subst e
    rw [List.getElem?_set_self (List.getElem?_eq_some_iff.1 hc).1] at hr
    cases hr
    rw [← h d none hc x]
    simp [cont]
  · rw [List.getElem?_set_ne (fun e2 => e e2.symm)] at hr
    exact h d r hr x
/-- One more reference, within a component. -/
theorem NeedS.same {comp : Int → Int} {S : Int → Int → Prop} {ms : List (Option MapR)} (h : NeedS comp S ms) {i j : Int} (he : comp j = comp i) : NeedS comp (fun a b => S a b ∨ (a = i ∧ b = j)) ms := by
  intro c r hr x
  rw [h c r hr x]
  constructor
  · rintro ⟨h1, a, b, h2, h3⟩; exact ⟨h1, a, b, .inl h2, h3⟩
  · rintro ⟨h1, a, b, h2 | ⟨rfl, rfl⟩, h3, h4⟩
    · exact ⟨h1, a, b, h2, h3, h4⟩
    · exact (h1 (by rw [← h4, he, h3])).elim
/-- One more reference, to another component. -/
theorem NeedS.put {comp : Int → Int} {S : Int → Int → Prop} {ms : List (Option MapR)} (h : NeedS comp S ms) {i j : Int} {c n' : Nat} {m : MapR} (hc : ms[c]? = some (some m)) (hi : comp i = (c : Int)) (hne : comp j ≠ comp i) :
    NeedS comp (fun a b => S a b ∨ (a = i ∧ b = j)) (ms.set c (some ⟨m.b, n', fun u => if u = comp j then some (.int .i64 1) else m.f u⟩)) := by
  intro d r hr x
  by_cases e : d = c
  · subst e
    rw [List.getElem?_set_self (List.getElem?_eq_some_iff.1 hc).1] at hr
    cases hr
    have h0 := h d (some m) hc x
    show (if x = comp j then some (Value.int .i64 1) else m.f x) ≠ none ↔ _
    by_cases ex : x = comp j
    · subst ex
      rw [if_pos rfl]
      exact ⟨fun _ => ⟨by rw [← hi]; exact hne, i, j, .inr ⟨rfl, rfl⟩, hi, rfl⟩, fun _ => by simp⟩
    · rw [if_neg ex]
      refine h0.trans ⟨?_, ?_⟩
      · rintro ⟨h1, a, b, h2, h3⟩; exact ⟨h1, a, b, .inl h2, h3⟩
      · rintro ⟨h1, a, b, h2 | ⟨rfl, rfl⟩, h3, h4⟩
        · exact ⟨h1, a, b, h2, h3, h4⟩
        · exact (ex h4.symm).elim
  · rw [List.getElem?_set_ne (fun e2 => e e2.symm)] at hr
    rw [h d r hr x]
    constructor
    · rintro ⟨h1, a, b, h2, h3⟩; exact ⟨h1, a, b, .inl h2, h3⟩
    · rintro ⟨h1, a, b, h2 | ⟨rfl, rfl⟩, h3, h4⟩
      · exact ⟨h1, a, b, h2, h3, h4⟩
      · rw [hi] at h3; exact (e (by omega)).elim
section
variable {b5 b6 Bs gN K : Nat} {S : Array Value} {vC va : Value} {comp : List Int} {fs : List (Value × List Int)} {ms : List (Option MapR)} {T : List Ent}
theorem cm_map {c : Nat} {r : Option MapR} (h : ms[c]? = some r) : (cmE b5 b6 Bs gN K S vC va comp fs ms T)[c + 6]? = some (ment r) := by
  show (mapsE ms ++ T)[c]? = _
  rw [List.getElem?_append_left (by rw [mapsE_len]; exact (List.getElem?_eq_some_iff.1 h).1)]
  exact mapsE_get h
theorem cm_set {c : Nat} (hc : c < ms.length) (r : Option MapR) : (cmE b5 b6 Bs gN K S vC va comp fs ms T).set (c + 6) (ment r) = ebox b5 #[.pointer (some ⟨Bs, 0, none⟩)] 62 :: ebox b6 #[.slice (some ⟨gN, 0, none⟩) K K] 64 :: ebox Bs S 66 :: rowI 3 vC comp :: rowR va (fs.map (·.1)) ::
    rowM (.slice (some ⟨gN, 0, none⟩) K K) (ms.map mval) :: (mapsE (ms.set c r) ++ T) := by
  show _ :: _ :: _ :: _ :: _ :: _ :: (mapsE ms ++ T).set c (ment r) = _
  rw [List.set_append_left _ _ (by rw [mapsE_len]; exact hc), mapsE_set]
theorem cm_put {c : Nat} (hc : c < ms.length) {m m' : MapR} (hm : ms[c]? = some (some m)) (hb : m'.b = m.b) : (cmE b5 b6 Bs gN K S vC va comp fs ms T).set (c + 6) (ment (some m')) = cmE b5 b6 Bs gN K S vC va comp fs (ms.set c (some m')) T := by
  rw [cm_set hc]
  have : ms.map mval = (ms.set c (some m')).map mval := by
    rw [List.map_set]
    have h1 : (ms.map mval)[c]? = some (mval (some m')) := by rw [List.getElem?_map, hm]; simp [mval, hb]
    obtain ⟨h2, h3⟩ := List.getElem?_eq_some_iff.1 h1
    rw [← h3, List.set_getElem_self]
  unfold cmE
  rw [this]
theorem cm_calm (B : Nat) (hm : ∀ (c : Nat) (m : MapR), ms[c]? = some (some m) → m.b < B) (hT : ∀ x ∈ T, x.Calm B) : ∀ x ∈ cmE b5 b6 Bs gN K S vC va comp fs ms T, x.Calm B := by
  refine calm_cons (ebox_calm _ _ _ _) (calm_cons (ebox_calm _ _ _ _) (calm_cons (ebox_calm _ _ _ _) (calm_cons (rowI_calm _ _ _ _) (calm_cons (rowR_calm _ _ _) (calm_cons (erow_calm B _ 1 _ _ _) (calm_append ?_ hT))))))
  intro x hx
  obtain ⟨r, hr, rfl⟩ := List.mem_map.1 hx
  cases r with
  | none => intro W B0 _ b hb; cases hb
  | some m =>
    obtain ⟨c, hc⟩ := List.mem_iff_getElem?.1 hr
    intro W B0 _ b hb
    cases hb
    exact .inl (hm c m hc)
theorem cm_new {c : Nat} (hc : c < ms.length) (m : MapR) : ((cmE b5 b6 Bs gN K S vC va comp fs ms T).set 5 (rowM (.slice (some ⟨gN, 0, none⟩) K K) ((ms.map mval).set c (.map (some m.b))))).set (c + 6) (ment (some m)) = cmE b5 b6 Bs gN K S vC va comp fs (ms.set c (some m)) T := by
  show _ :: _ :: _ :: _ :: _ :: _ :: (mapsE ms ++ T).set c (ment (some m)) = _
  rw [List.set_append_left _ _ (by rw [mapsE_len]; exact hc), mapsE_set]
  unfold cmE
  rw [List.map_set]
  rfl
theorem cm_ok {B : Nat} {w0 w : World} {x : Ent} (h : Mem B w0 w (x :: cmE b5 b6 Bs gN K S vC va comp fs ms T)) {c : Nat} {r : Option MapR} (hr : ms[c]? = some r) : (ment r).ok B w :=
  h.get (c + 7) (show (cmE b5 b6 Bs gN K S vC va comp fs ms T)[c + 6]? = some (ment r) from cm_map hr)
theorem cm_in {B : Nat} {w0 w : World} {x y : Ent} (h : Mem B w0 w (x :: y :: cmE b5 b6 Bs gN K S vC va comp fs ms T)) : Mem B w0 w (cmE b5 b6 Bs gN K S vC va comp fs ms (y :: x :: T)) := by
  have h1 : Mem B w0 w (y :: cmE b5 b6 Bs gN K S vC va comp fs ms (x :: T)) := Mem.tailDef (A := y :: ([_, _, _, _, _, _] ++ mapsE ms)) h
  exact Mem.tailDef (A := [_, _, _, _, _, _] ++ mapsE ms) h1
end

theorem Mem.wp_appR {B : Nat} {w0 w : World} {L : List Ent} {ops : Array Oper} {rest : List Oper} {o : Oper} {ac : Act} {Q : Exit → Act → World → Prop} (hgd : o.guard = none) (s x : Operand)
    (ho : o.op = .call { callee := .builtin .append, args := #[s, x], argTypes := #[31, 31] }) (h : Mem B w0 w L) (k : Nat) {v : Value} {vs : List Value} (hk : L[k]? = some (rowR v vs)) (n : Nat) (hvn : vs.length = n)
    (hs : ac.eval s = v) (c : Nat) (y : Value) (hy : y.oneCell' = true) (e2 : TypeId) (bl : Nat) (hx : ac.eval x = .slice (some ⟨bl, 0, none⟩) 1 c) (hbl : w.heap.size = bl) (hn : n ≤ 1000000)
    (hh : ∀ ad cap w', Mem B w0 w' (L.set k (rowR (.slice ad (n + 1) cap) (vs ++ [y]))) → w.heap.size < w'.heap.size → wpList Try.prog ops Q rest (ac.put o.dst (.slice ad (n + 1) cap)) w') :
    wpList Try.prog ops Q (o :: rest) ac (w.alloc (.cells #[y] e2)) := by
  subst hvn
  refine Mem.wp_app1 elemRows hgd s x ho h k hk hs c #[y] e2 bl hx hbl rfl (by simpa using hy) (by decide) hn ?_
  intro ad cap w' h1 h2 _ _
  exact hh ad cap w' (h1.cast (by simp [rowR])) h2
/-- One that may be taken next. -/
def Cand (E : Int → Int → Prop) (comp : Int → Int) (o : List Int) (c : Int) : Prop := c ∉ o ∧ ∀ d, CE E comp c d → d ∈ o
/-- What the maps hold while components are taken. -/
structure MsI (E : Int → Int → Prop) (comp : Int → Int) (K : Nat) (o : List Int) (ms : List (Option MapR)) : Prop where
  len : ms.length = K
  gone : ∀ c : Nat, c < K → (c : Int) ∈ o → ms[c]? = some none
  left : ∀ c : Nat, c < K → (c : Int) ∉ o → ∃ m, ms[c]? = some (some m) ∧ ∀ x, m.f x ≠ none ↔ CE E comp (c : Int) x ∧ x ∉ o
/-- The same while b is taken out of the first k maps. -/
structure MsD (E : Int → Int → Prop) (comp : Int → Int) (K : Nat) (o : List Int) (b : Int) (k : Nat) (ms : List (Option MapR)) : Prop where
  len : ms.length = K
  gone : ∀ c : Nat, c < K → ((c : Int) ∈ o ∨ (c : Int) = b) → ms[c]? = some none
  done : ∀ c : Nat, c < K → c < k → (c : Int) ∉ o → (c : Int) ≠ b → ∃ m, ms[c]? = some (some m) ∧ ∀ x, m.f x ≠ none ↔ CE E comp (c : Int) x ∧ x ∉ o ∧ x ≠ b
  todo : ∀ c : Nat, c < K → k ≤ c → (c : Int) ∉ o → (c : Int) ≠ b → ∃ m, ms[c]? = some (some m) ∧ ∀ x, m.f x ≠ none ↔ CE E comp (c : Int) x ∧ x ∉ o
theorem MsI.cut {E : Int → Int → Prop} {comp : Int → Int} {K : Nat} {o : List Int} {ms : List (Option MapR)} (h : MsI E comp K o ms) (b : Nat) (hb : b < K) : MsD E comp K o (b : Int) 0 (ms.set b none) := by
  have hl := h.len
  refine ⟨by rw [List.length_set]; exact hl, fun c hc h1 => ?_, fun c _ h1 => absurd h1 (Nat.not_lt_zero _), fun c hc _ h1 h2 => ?_⟩
  · by_cases e : b = c
    · subst e; rw [List.getElem?_set_self (by omega)]
    · rw [List.getElem?_set_ne e]
      rcases h1 with h1 | h1
      · exact h.gone c hc h1
      · omega
  · rw [List.getElem?_set_ne (by omega)]
    exact h.left c hc h1
theorem MsD.skip {E : Int → Int → Prop} {comp : Int → Int} {K : Nat} {o : List Int} {b : Int} {k : Nat} {ms : List (Option MapR)} (h : MsD E comp K o b k ms) (hk : k < K) (hn : ms[k]? = some none) : MsD E comp K o b (k + 1) ms := by
  refine ⟨h.len, h.gone, fun c hc h0 h1 h2 => ?_, fun c hc h0 h1 h2 => h.todo c hc (by omega) h1 h2⟩
  by_cases e : c = k
  · subst e
    obtain ⟨m, h3, _⟩ := h.todo c hc (Nat.le_refl _) h1 h2
    rw [hn] at h3; cases h3
  · exact h.done c hc (by omega) h1 h2
theorem MsD.take {E : Int → Int → Prop} {comp : Int → Int} {K : Nat} {o : List Int} {b : Int} {k : Nat} {ms : List (Option MapR)} (h : MsD E comp K o b k ms) (hk : k < K) {m : MapR} (hm : ms[k]? = some (some m)) :
    MsD E comp K o b (k + 1) (ms.set k (some ⟨m.b, m.n, fun u => if u = b then none else m.f u⟩)) := by
  have hl := h.len
  refine ⟨by rw [List.length_set]; exact hl, fun c hc h1 => ?_, fun c hc h0 h1 h2 => ?_, fun c hc h0 h1 h2 => ?_⟩
  · have h3 := h.gone c hc h1
    have : k ≠ c := by intro e; subst e; rw [hm] at h3; cases h3
    rw [List.getElem?_set_ne this]; exact h3
  · by_cases e : k = c
    · subst e
      obtain ⟨m', h3, h4⟩ := h.todo k hc (Nat.le_refl _) h1 h2
      rw [hm] at h3; cases h3
      refine ⟨_, List.getElem?_set_self (by omega), fun x => ?_⟩
      by_cases ex : x = b
      · simp [ex]
      · simp only [ex, if_false, not_false_eq_true, and_true, ne_eq]; exact h4 x
    · rw [List.getElem?_set_ne e]; exact h.done c hc (by omega) h1 h2
  · rw [List.getElem?_set_ne (by omega)]; exact h.todo c hc (by omega) h1 h2
theorem MsD.fin {E : Int → Int → Prop} {comp : Int → Int} {K : Nat} {o : List Int} {b : Int} {k : Nat} {ms : List (Option MapR)} (h : MsD E comp K o b k ms) (hk : K ≤ k) : MsI E comp K (o ++ [b]) ms := by
  refine ⟨h.len, fun c hc h1 => h.gone c hc (by simpa using h1), fun c hc h1 => ?_⟩
  rw [List.mem_append, List.mem_singleton, not_or] at h1
  obtain ⟨m, h2, h3⟩ := h.done c hc (by omega) h1.1 h1.2
  exact ⟨m, h2, fun x => (h3 x).trans (by simp)⟩
theorem cm_nil (b5 b6 Bs gN K : Nat) (S : Array Value) (vC va : Value) (comp : List Int) (fs : List (Value × List Int)) (ms : List (Option MapR)) (T : List Ent) {c : Nat} (hc : c < ms.length) : ((cmE b5 b6 Bs gN K S vC va comp fs ms T).set 5 (rowM (.slice (some ⟨gN, 0, none⟩) K K) ((ms.map mval).set c (.map none)))).set (c + 6) enone = cmE b5 b6 Bs gN K S vC va comp fs (ms.set c none) T := by
  show _ :: _ :: _ :: _ :: _ :: _ :: (mapsE ms ++ T).set c (ment none) = _
  rw [List.set_append_left _ _ (by rw [mapsE_len]; exact hc), mapsE_set]
  unfold cmE
  rw [List.map_set]
  rfl
theorem cm_at {b5 b6 Bs gN K : Nat} {S : Array Value} {vC va : Value} {comp : List Int} {fs : List (Value × List Int)} {ms : List (Option MapR)} {T : List Ent} {x : Ent} {c : Nat} {m : MapR} (h : ms[c]? = some (some m)) :
    (x :: cmE b5 b6 Bs gN K S vC va comp fs ms T)[c + 7]? = some (gmap mapII m.b m.n m.f) := cm_map (b5 := b5) (b6 := b6) (Bs := Bs) (gN := gN) (K := K) (S := S) (vC := vC) (va := va) (comp := comp) (fs := fs) (T := T) h
theorem cm_del (b5 b6 Bs gN K : Nat) (S : Array Value) (vC va : Value) (comp : List Int) (fs : List (Value × List Int)) (ms : List (Option MapR)) (T : List Ent) (x : Ent) {c : Nat} {m : MapR} (h : ms[c]? = some (some m)) (f' : Int → Option Value) :
    (x :: cmE b5 b6 Bs gN K S vC va comp fs ms T).set (c + 7) (gmap mapII m.b m.n f') = x :: cmE b5 b6 Bs gN K S vC va comp fs (ms.set c (some ⟨m.b, m.n, f'⟩)) T := by
  rw [← cm_put (m' := ⟨m.b, m.n, f'⟩) (List.getElem?_eq_some_iff.1 h).1 h rfl]
  rfl
theorem NeedS.start {g : G} {n K : Nat} {comp : Int → Int} {all : List (List Int)} {ms : List (Option MapR)} (hN : NeedS comp (fun i j => 0 ≤ i ∧ i < (n : Int) ∧ EG g i j) ms) (hl : ms.length = K) (hK : all.length = K) (hR : Res (EG g) n comp all) (hE : ∀ i j, EG g i j → i < (n : Int))
    (hs : ∀ (i c : Nat), i < n → comp (i : Int) = (c : Int) → ms[c]? ≠ some none) : MsI (EG g) comp K [] ms := by
  refine ⟨hl, fun c _ h => (by cases h), fun c hc _ => ?_⟩
  obtain ⟨cs, hcs⟩ := get_some all c (by omega)
  obtain ⟨h1, _, h3⟩ := hR.cls c cs hcs
  obtain ⟨r, hr⟩ := get_some ms c (by omega)
  have h4 := hN c r hr
  cases r with
  | none =>
    exfalso
    cases hce : cs with
    | nil => exact h1 hce
    | cons y l =>
      have h5 := (h3 y).1 (by rw [hce]; exact List.mem_cons_self ..)
      have h6 := hR.out y (by omega)
      refine hs y.toNat c (by omega) ?_ hr
      rw [show ((y.toNat : Nat) : Int) = y by omega]; exact h5
  | some m =>
    refine ⟨m, hr, fun x => (h4 x).trans ?_⟩
    unfold CE
    constructor
    · rintro ⟨h5, i, j, ⟨_, _, h6⟩, h7, h8⟩
      exact ⟨⟨fun e => h5 e.symm, i, j, h6, h7, h8⟩, by simp⟩
    · rintro ⟨⟨h5, i, j, h6, h7, h8⟩, _⟩
      exact ⟨fun e => h5 e.symm, i, j, ⟨h6.1, hE i j h6, h6⟩, h7, h8⟩
set_option linter.unusedSimpArgs false in
set_option maxRecDepth 100000 in
set_option maxHeartbeats 4000000 in
theorem comps_main (g : G) (hG : Good g) (v : Value) (w : World) (hg : IsGraph w v g) :
    CallsIn Fence.wide 10 Try.prog 21 #[v] w fun e w' => ∃ (vl : Value) (comp : List Int) (fs : List (Value × List Int)) (o : List Nat), e = .returned (.tuple #[vl, .int .i64 0]) ∧ Res (EG g) g.objs.length (rd comp (-1)) (fs.map (·.2)) ∧ Took (EG g) (rd comp (-1)) fs.length (o.map fun c : Nat => (c : Int)) ∧ o.length = fs.length ∧
      Mem w.heap.size w w' (rowR vl (o.map fun c : Nat => (fs.getD c (.slice none 0 0, [])).1) :: rowsI fs) := by
  have Hg := Lib.hid hg
  obtain ⟨vo, vr, rfl, ho, hr⟩ := hg
  obtain ⟨ao, co, rfl, hlo⟩ := ho.slice
  obtain ⟨ar, cr, rfl, hlr⟩ := hr.slice
  have Ho := Lib.hid ho
  have hn := hG.objs
  have HG := Lib.hid hG
  clear ho hr hG
  refine callsIn_of_wp_marks Try.func21 rfl trivial ?_ rfl
  simp only [Try.ntmps21, List.size_toArray, List.length_cons, List.length_nil, Nat.reduceAdd, Nat.reduceSub, Array.replicate_succ, Array.replicate_zero, List.push_toArray, List.append_toArray, List.nil_append, List.cons_append]
  have hM0 := (Mem.start w).alloc #[.slice ao g.objs.length co, .slice ar g.roots.length cr] 25
  gi_wp2_with fail
  refine ⟨trivial, (callsIn_wide.2 (gcheck_yes _ g _ (Hg.out.later hM0.below) HG.out)).mono ?_⟩
  rintro e w1 ⟨rfl, hb⟩
  have hM1 := hM0.call hb
  have p0 : w1.cell? ⟨w.heap.size, 0, none⟩ = some (.slice ao g.objs.length co) := by have := hM1.cell 0 rfl 0; simpa using this
  have p1 : w1.cell? ⟨w.heap.size, 1, none⟩ = some (.slice ar g.roots.length cr) := by have := hM1.cell 0 rfl 1; simpa using this
  clear hM0 hb
  gi_wp2_with fail
  refine ⟨trivial, (callsIn_wide.2 (foundC_any g HG.out _ _ w1 (Hg.out.later hM1.below))).mono ?_⟩
  rintro e w2 ⟨Bs, vL, vA, vst, vC, va, comp, fs, rfl, hR, hcl, hM2⟩
  have hM3 := hM1.callMem hM2
  obtain ⟨K, hK⟩ : ∃ K, fs.length = K := ⟨_, rfl⟩
  have hK24 : K ≤ 24 := by have := hR.room; rw [List.length_map] at this; omega
  obtain ⟨aA, cA, hva⟩ := hM3.rowRSlice 2 rfl
  rw [List.length_map, hK] at hva
  obtain ⟨T, hT⟩ : ∃ T, rowsI fs ++ [ebox w.heap.size #[.slice ao g.objs.length co, .slice ar g.roots.length cr] 25] = T := ⟨_, rfl⟩
  have hM4 : Mem w.heap.size w w2 (ebox Bs #[.slice ao g.objs.length co, .slice ar g.roots.length cr, vL, vA, vst, vC, va] 66 :: rowI 3 vC comp :: rowR va (fs.map (·.1)) :: T) := by
    rw [← hT]; exact hM3.cast (by simp)
  have hM5 := hM4.alloc #[.pointer (some ⟨Bs, 0, none⟩)] 62
  have q1 : w2.cell? ⟨Bs, 6, none⟩ = some (.slice aA K cA) := by have := hM4.cell 0 rfl 6; rw [hva] at this; simpa using this
  have q2 : Bs < w2.heap.size := (hM4.box 0 rfl).2.1
  have hmg : ebox w.heap.size #[.slice ao g.objs.length co, .slice ar g.roots.length cr] 25 ∈ T := by rw [← hT]; simp
  have Hmg := Lib.hid hmg
  have HR := Lib.hid hR
  have Hcl := Lib.hid hcl
  have HK := Lib.hid hK
  have Hva := Lib.hid hva
  have HT := Lib.hid hT
  have HM4 := Lib.hid hM4
  clear hM1 hM2 hM3 hM4 hR hcl hK hva hT
  gi_wp2_with (gi_at_make; refine Mem.in_makeM elemMaps rfl _ _ rfl hM5 K rfl rfl (by omega) ?_; intro w3 hM6 hb6; have z1 : w.heap.size < w3.heap.size := (hM6.lt (List.mem_cons_of_mem _ (List.mem_cons_of_mem _ (List.mem_cons_of_mem _ (List.mem_cons_of_mem _ (List.mem_cons_of_mem _ Hmg.out))))) _ rfl).2; have z2 : w3.cell? ⟨w.heap.size, 0, none⟩ = some (.slice ao g.objs.length co) := hM6.boxCell (List.mem_cons_of_mem _ (List.mem_cons_of_mem _ (List.mem_cons_of_mem _ (List.mem_cons_of_mem _ (List.mem_cons_of_mem _ Hmg.out))))) 0 rfl)
  have hM7 : Mem w.heap.size w (w3.alloc (.cells #[.slice (some ⟨w2.heap.size + 1, 0, none⟩) K K] 64)) (cmE w2.heap.size w3.heap.size Bs (w2.heap.size + 1) K #[.slice ao g.objs.length co, .slice ar g.roots.length cr, vL, vA, vst, vC, va] vC va comp fs (List.replicate K none) (([] : List Nat).map edef ++ T)) := by
    simp only [World.size_alloc] at hM6
    have h := (hM6.alloc #[.slice (some ⟨w2.heap.size + 1, 0, none⟩) K K] 64).nones K
    have h2 := h.perm (List.perm_append_comm_assoc [_, _, _, _, _, _] (mapsE (List.replicate K none)) T)
    have e : (List.replicate K (none : Option MapR)).map mval = List.replicate K (.map none) := by simp [mval]
    unfold cmE
    rw [e]
    exact h2.pick (A' := [_, _, _, _, _, _]) [2, 0, 3, 4, 5, 1] (by decide) rfl
  have hN0 : NeedS (rd comp (-1)) (fun i j => 0 ≤ i ∧ i < ((0 : Nat) : Int) ∧ EG g i j) (List.replicate K none) := by
    intro c r hr x
    rw [List.getElem?_replicate] at hr
    split at hr
    · cases hr
      simp only [cont, false_iff]
      rintro ⟨_, i, j, ⟨h1, h2, _⟩, _⟩
      omega
    · cases hr
  refine loop_marks [7, 8, 9, 10, 33, 34, 35, 36, 37, 38, 39, 40, 41, 42, 43, 44, 45, 46, 47, 48, 49, 50, 51, 52, 53, 54, 55, 56, 57, 58, 59, 60, 61, 62, 63, 64, 65, 66, 67, 68, 69, 70, 71, 72, 73, 74, 75, 76, 77, 78] (fun m u Ds W => ∃ (k : Nat) (ms : List (Option MapR)), m = g.objs.length - k ∧ k ≤ g.objs.length ∧ u 33 = .int .i64 (k : Int) ∧ ms.length = K ∧ NeedS (rd comp (-1)) (fun i j => 0 ≤ i ∧ i < (k : Int) ∧ EG g i j) ms ∧ (∀ (i c : Nat), i < k → rd comp (-1) (i : Int) = (c : Int) → ms[c]? ≠ some none) ∧ (∀ (c : Nat) (m : MapR), ms[c]? = some (some m) → m.n ≤ 4 * k) ∧
      Mem w.heap.size w W (cmE w2.heap.size w3.heap.size Bs (w2.heap.size + 1) K #[.slice ao g.objs.length co, .slice ar g.roots.length cr, vL, vA, vst, vC, va] vC va comp fs ms (Ds.map edef ++ T)))
      (Ds0 := []) rfl g.objs.length ⟨0, _, rfl, Nat.zero_le _, rfl, by simp, hN0, fun i c h => absurd h (Nat.not_lt_zero _), fun c m h => (by rw [List.getElem?_replicate] at h; split at h <;> cases h), hM7⟩ ?_
  obtain ⟨b5, hb5⟩ : ∃ b5, w2.heap.size = b5 := ⟨_, rfl⟩
  obtain ⟨b6, hb6'⟩ : ∃ b6, w3.heap.size = b6 := ⟨_, rfl⟩
  rw [hb5, hb6']
  clear hM7 hM6 hM5 hN0 hb6 z1 z2 q1 q2 HM4 p0 p1 hb5 hb6'
  rintro m u Ds W ⟨k, ms, rfl, hk, hu, hml, hN, hsome, hmn, hM⟩
  simp only [setAll, List.foldl_cons, List.foldl_nil, List.setIfInBounds_toArray, List.set_cons_succ, List.set_cons_zero, hu]
  by_cases hlt : k < g.objs.length
  · obtain ⟨ob, hob⟩ := get_some _ _ hlt
    obtain ⟨bo, oo, cap3, uo, hv2, hbo, hn3, c2, huo⟩ := Ho.out.at hM.below hob
    cases hv2
    obtain ⟨af, cf, rfl, hlf⟩ := huo.slice
    have hc0 := HR.out.rng (k : Int) (by omega) (by omega)
    have hc1 := HR.out.ltl (k : Int)
    rw [List.length_map, HK.out] at hc1
    obtain ⟨ck, hck⟩ := get_some comp k (by rw [Hcl.out]; exact hlt)
    have hck2 : rd comp (-1) (k : Int) = ck := rd_some hck
    rw [hck2] at hc0 hc1
    obtain ⟨c, rfl⟩ : ∃ c : Nat, ck = (c : Int) := ⟨ck.toNat, by omega⟩
    have hcK : c < K := by omega
    obtain ⟨gC, cC, hvC, _⟩ := hM.intsAt 3 rfl (by intro e; rw [e] at hck; simp at hck)
    rw [Hcl.out] at hvC
    subst hvC
    obtain ⟨r, hr⟩ := get_some ms c (by rw [hml]; exact hcK)
    have s0 : W.cell? ⟨b5, 0, none⟩ = some (.pointer (some ⟨Bs, 0, none⟩)) := by have := hM.cell 0 rfl 0; simpa using this
    have s1 : W.cell? ⟨b6, 0, none⟩ = some (.slice (some ⟨b5 + 1, 0, none⟩) K K) := by have := hM.cell 1 rfl 0; simpa using this
    have s2 : W.cell? ⟨Bs, 5, none⟩ = some (.slice (some ⟨gC, 0, none⟩) g.objs.length cC) := by have := hM.cell 2 rfl 5; simpa using this
    obtain ⟨s3, _⟩ := hM.intAt 3 rfl hck
    obtain ⟨s4, s4f, z4⟩ := hM.mapCell 5 rfl (j := c) (x := mval r) (by rw [List.getElem?_map, hr]; rfl)
    have z0 : b5 < W.heap.size := (hM.box 0 rfl).2.1
    have z1 : b6 < W.heap.size := (hM.box 1 rfl).2.1
    have z2 : Bs < W.heap.size := (hM.box 2 rfl).2.1
    have z3 : gC < W.heap.size := (hM.lt (List.mem_cons_of_mem _ (List.mem_cons_of_mem _ (List.mem_cons_of_mem _ List.mem_cons_self))) gC rfl).2
    have z01 : b5 < W.heap.size + 1 := by omega
    have z11 : b6 < W.heap.size + 1 := by omega
    have z12 : b6 < W.heap.size + 1 + 1 := by omega
    have z21 : Bs < W.heap.size + 1 := by omega
    have z31 : gC < W.heap.size + 1 := by omega
    have z41 : b5 + 1 < W.heap.size + 1 := by omega
    have z42 : b5 + 1 < W.heap.size + 1 + 1 := by omega
    have z43 : b5 + 1 < W.heap.size + 1 + 1 + 1 := by omega
    have hk1 : (0 : Int) ≤ (k : Int) := by omega
    have hk2 : (k : Int) < (g.objs.length : Int) := by omega
    have hcc1 : (0 : Int) ≤ (c : Int) := by omega
    have hcc2 : (c : Int) < (K : Int) := by omega
    have hMx := (hM.alloc #[.slice af ob.length cf] 50).allocAt (W.heap.size + 1) (by simp) #[.int .i64 (c : Int)] 3
    have hmm := @run_makeMap Try.prog
    have qT : ∀ (w : World) (r : Option Nat), (binOp .eql 67 (.map r) (.map none)).run Try.prog w = .ok (.bool r.isNone) w := fun w r => run_eql_map_nil w _ _ _ r Try.underlying67
    have HM := Lib.hid hM
    have Hob := Lib.hid hob
    have Huo := Lib.hid huo
    have Hck := Lib.hid hck2
    have HN := Lib.hid hN
    have Hsome := Lib.hid hsome
    have Hmn := Lib.hid hmn
    have Hr := Lib.hid hr
    have Hml := Lib.hid hml
    clear hM hob huo hck hck2 hN hsome hmn hml hr hu
    (rcases r with _ | m0) <;> (simp only [mval] at s4) <;> (gi_wp2_with fail)
    have hMa := ((((HM.out.setM 5 rfl (by rw [List.length_map]; exact Hml.out) c (.map (some (W.heap.size + 1 + 1)))).allocAt W.heap.size (by simp) #[.slice af ob.length cf] 50).allocAt (W.heap.size + 1) (by simp) #[.int .i64 (c : Int)] 3).newMapAt mapII (W.heap.size + 1 + 1) (by simp)).fill (c + 8) (by simp [mapsE]; rw [Hml.out]; omega)
    have hM4 := cm_in (hMa.cast (by
      have e := cm_new (b5 := b5) (b6 := b6) (Bs := Bs) (gN := b5 + 1) (K := K) (S := #[.slice (some ⟨bo, oo, none⟩) g.objs.length co, .slice ar g.roots.length cr, vL, vA, vst, .slice (some ⟨gC, 0, none⟩) g.objs.length cC, va]) (vC := .slice (some ⟨gC, 0, none⟩) g.objs.length cC) (va := va) (comp := comp) (fs := fs) (ms := ms) (T := Ds.map edef ++ T) (c := c) (by rw [Hml.out]; exact hcK) ⟨W.heap.size + 1 + 1, 0, fun _ => none⟩
      rw [← e]
      rfl))
    obtain ⟨W4, hW4⟩ : ∃ W4, (((W.setCell ⟨b5 + 1, c, none⟩ (.map (some (W.heap.size + 1 + 1)))).alloc (.cells #[.slice af ob.length cf] 50)).alloc (.cells #[.int .i64 (c : Int)] 3)).alloc (.map #[] 0) = W4 := ⟨_, rfl⟩
    rw [hW4] at hM4 ⊢
    obtain ⟨ms1, hms1⟩ : ∃ ms1, ms.set c (some ⟨W.heap.size + 1 + 1, 0, fun _ => none⟩) = ms1 := ⟨_, rfl⟩
    have hcl1 : c < ms.length := by rw [Hml.out]; exact hcK
    have hm1 : ∃ m1 : MapR, ms1[c]? = some (some m1) := ⟨_, by rw [← hms1, List.getElem?_set_self hcl1]⟩
    have hml1 : ms1.length = K := by rw [← hms1, List.length_set]; exact Hml.out
    have hN1 : NeedS (rd comp (-1)) (fun i j => 0 ≤ i ∧ i < (k : Int) ∧ EG g i j) ms1 := by rw [← hms1]; exact HN.out.fresh Hr.out
    have hsome1 : ∀ (i d : Nat), i < k → rd comp (-1) (i : Int) = (d : Int) → ms1[d]? ≠ some none := by
      intro i d hi hd
      rw [← hms1]
      by_cases e : d = c
      · subst e; rw [List.getElem?_set_self hcl1]; simp
      · rw [List.getElem?_set_ne (fun e2 => e e2.symm)]; exact Hsome.out i d hi hd
    have hmn1 : ∀ (d : Nat) (m : MapR), ms1[d]? = some (some m) → m.n ≤ 4 * k := by
      intro d m hd
      rw [← hms1] at hd
      by_cases e : d = c
      · subst e; rw [List.getElem?_set_self hcl1] at hd; cases hd; exact Nat.zero_le _
      · rw [List.getElem?_set_ne (fun e2 => e e2.symm)] at hd; exact Hmn.out d m hd
    rw [hms1] at hM4
    have HM4 : Hid (Mem w.heap.size w W4 (cmE b5 b6 Bs (b5 + 1) K #[.slice (some ⟨bo, oo, none⟩) g.objs.length co, .slice ar g.roots.length cr, vL, vA, vst, .slice (some ⟨gC, 0, none⟩) g.objs.length cC, va] (.slice (some ⟨gC, 0, none⟩) g.objs.length cC) va comp fs ms1 (ebox W.heap.size #[.slice af ob.length cf] 50 :: ebox (W.heap.size + 1) #[.int .i64 (c : Int)] 3 :: (Ds.map edef ++ T)))) := Lib.hid hM4
    have Hm1 := Lib.hid hm1
    have Hml1 := Lib.hid hml1
    have HN1 := Lib.hid hN1
    have Hsome1 := Lib.hid hsome1
    have Hmn1 := Lib.hid hmn1
    clear hMa hM4 hW4 hms1 hm1 hml1 hN1 hsome1 hmn1 hcl1
    rotate_left
    have hM4 := cm_in ((HM.out.alloc #[.slice af ob.length cf] 50).allocAt (W.heap.size + 1) (by simp) #[.int .i64 (c : Int)] 3)
    obtain ⟨W4, hW4⟩ : ∃ W4, (W.alloc (.cells #[.slice af ob.length cf] 50)).alloc (.cells #[.int .i64 (c : Int)] 3) = W4 := ⟨_, rfl⟩
    rw [hW4] at hM4 ⊢
    obtain ⟨ms1, hms1⟩ : ∃ ms1, ms = ms1 := ⟨_, rfl⟩
    subst hms1
    have Hm1 : Hid (∃ m1 : MapR, ms[c]? = some (some m1)) := Lib.hid ⟨_, Hr.out⟩
    have Hml1 := Lib.hid Hml.out
    have HN1 := Lib.hid HN.out
    have Hsome1 := Lib.hid Hsome.out
    have Hmn1 := Lib.hid Hmn.out
    obtain ⟨ms1, hms1⟩ : ∃ ms1, ms = ms1 := ⟨_, rfl⟩
    rw [hms1] at hM4 Hm1 Hml1 HN1 Hsome1 Hmn1
    have HM4 : Hid (Mem w.heap.size w W4 (cmE b5 b6 Bs (b5 + 1) K #[.slice (some ⟨bo, oo, none⟩) g.objs.length co, .slice ar g.roots.length cr, vL, vA, vst, .slice (some ⟨gC, 0, none⟩) g.objs.length cC, va] (.slice (some ⟨gC, 0, none⟩) g.objs.length cC) va comp fs ms1 (ebox W.heap.size #[.slice af ob.length cf] 50 :: ebox (W.heap.size + 1) #[.int .i64 (c : Int)] 3 :: (Ds.map edef ++ T)))) := Lib.hid hM4
    clear hM4 hW4 hms1
    all_goals
      refine ⟨trivial, (targets_opaque _ _ _ _ _).mono ?_⟩
      rintro e w4 ⟨Bt, rfl, hb4, hBt, hct⟩
      have hM9 := HM4.out.call hb4
      have Hb4 := Lib.hid hb4.size
      clear HM4 hb4 s0 s1 s2 s3 s4 s4f z0 z1 z2 z3 z4 z01 z11 z12 z21 z31 z41 z42 z43 hMx HN Hsome Hmn Hr Hml HM
      have hDs : ∀ D ∈ Ds, D < w4.heap.size := hM9.defs_lt (fun D hD => List.mem_cons_of_mem _ (List.mem_cons_of_mem _ (List.mem_cons_of_mem _ (List.mem_cons_of_mem _ (List.mem_cons_of_mem _ (List.mem_cons_of_mem _ (List.mem_append_right _ (List.mem_cons_of_mem _ (List.mem_cons_of_mem _ (List.mem_append_left _ (List.mem_map.2 ⟨D, hD, rfl⟩)))))))))))
      have hmb : ∀ (d : Nat) (m : MapR), ms1[d]? = some (some m) → m.b < w4.heap.size := fun d m hd => ((hM9.get (d + 6) (cm_map hd)).1 m.b rfl).2
      have hbase := hM9.base
      have hfo : fieldsAt g (k : Int) = ob := by unfold fieldsAt; rw [List.getD_eq_getElem?_getD, Int.toNat_natCast, Hob.out]; rfl
      have hob4 : ob.length ≤ 4 := HG.out.fields ob (List.mem_of_getElem? Hob.out)
      have hcalm := calm_of hM9 (L' := T) (fun x hx => List.mem_cons_of_mem _ (List.mem_cons_of_mem _ (List.mem_cons_of_mem _ (List.mem_cons_of_mem _ (List.mem_cons_of_mem _ (List.mem_cons_of_mem _ (List.mem_append_right _ (List.mem_cons_of_mem _ (List.mem_cons_of_mem _ (List.mem_append_right _ hx))))))))))
      have HT4 := Lib.hid (calm_cons (ebox_calm w4.heap.size W.heap.size #[.slice af ob.length cf] 50) (calm_cons (ebox_calm _ (W.heap.size + 1) #[.int .i64 (c : Int)] 3) (calm_append (calm_defs _ hDs) hcalm)))
      have Hmb := Lib.hid hmb
      have Hfo := Lib.hid hfo
      have hN2 : NeedS (rd comp (-1)) (fun i j => (0 ≤ i ∧ i < (k : Int) ∧ EG g i j) ∨ (i = (k : Int) ∧ j ∈ ([] : List (Tg ob)).map (·.1))) ms1 := HN1.out.congr (fun i j => by simp)
      gi_wp2
      refine range_slot (by omega) (gf := 56) (lb := #[.pointer (some ⟨Bt, 0, none⟩)]) rfl (enters_of Try.func56 (by kernel_rfl) rfl)
        (targets_stops _ (by omega) Bt ob _ w Huo.out w4 hM9.below hBt hct) hbase
        (fun pre W6 => ∃ ms2 : List (Option MapR), (ms2.length = K ∧ (∃ m1 : MapR, ms2[c]? = some (some m1)) ∧ NeedS (rd comp (-1)) (fun i j => (0 ≤ i ∧ i < (k : Int) ∧ EG g i j) ∨ (i = (k : Int) ∧ j ∈ pre.map (·.1))) ms2 ∧ (∀ (i d : Nat), i < k → rd comp (-1) (i : Int) = (d : Int) → ms2[d]? ≠ some none) ∧ (∀ (d : Nat) (m : MapR), ms2[d]? = some (some m) → m.n ≤ 4 * k + pre.length) ∧ (∀ (d : Nat) (m : MapR), ms2[d]? = some (some m) → m.b < w4.heap.size)) ∧
          Mem w.heap.size w W6 (cmE b5 b6 Bs (b5 + 1) K #[.slice (some ⟨bo, oo, none⟩) g.objs.length co, .slice ar g.roots.length cr, vL, vA, vst, .slice (some ⟨gC, 0, none⟩) g.objs.length cC, va] (.slice (some ⟨gC, 0, none⟩) g.objs.length cC) va comp fs ms2 (ebox W.heap.size #[.slice af ob.length cf] 50 :: ebox (W.heap.size + 1) #[.int .i64 (c : Int)] 3 :: (Ds.map edef ++ T))))
        (fun _ _ _ => False) ?own (fun _ => ownFrom_false _) ⟨ms1, ⟨Hml1.out, Hm1.out, hN2, Hsome1.out, fun d m hd => by have := Hmn1.out d m hd; simp; omega, hmb⟩, hM9⟩ 10 (fun x => .int .i64 x.1) ?assign ?body ?done ?stop
      case own =>
        refine ownFrom_ex fun ms2 => ?_
        intro sx W6 W' row hs hg hr
        exact ⟨hs.1, ownFrom_mem (β := Unit) (fun _ => (cmE b5 b6 Bs (b5 + 1) K #[.slice (some ⟨bo, oo, none⟩) g.objs.length co, .slice ar g.roots.length cr, vL, vA, vst, .slice (some ⟨gC, 0, none⟩) g.objs.length cC, va] (.slice (some ⟨gC, 0, none⟩) g.objs.length cC) va comp fs ms2 (ebox W.heap.size #[.slice af ob.length cf] 50 :: ebox (W.heap.size + 1) #[.int .i64 (c : Int)] 3 :: (Ds.map edef ++ T)))) hbase (fun _ => cm_calm _ hs.1.2.2.2.2.2 HT4.out) () W6 W' row hs.2 hg hr⟩
      case assign =>
        intro l x W Kk hK
        simp only [laid]
        gi_wp2
        exact hK
      case stop => rintro D c pre W hD hpre hf hK; exact hf.elim
      case body =>
        rintro lb pre ⟨x, hx⟩ W6 hsz ⟨ms2, ⟨hml2, ⟨m1, hm1⟩, hN2, hso2, hn2, hb2⟩, hM⟩ hlen
        have hxin := HG.out.target (fields_all g (k : Int)) (by rw [Hfo.out]; exact hx)
        obtain ⟨j, rfl⟩ : ∃ j : Nat, x = (j : Int) := ⟨x.toNat, by omega⟩
        have hj : j < g.objs.length := by omega
        obtain ⟨dj, hdj⟩ := get_some comp j (by rw [Hcl.out]; exact hj)
        have hdj2 : rd comp (-1) (j : Int) = dj := rd_some hdj
        have hd0 := HR.out.rng (j : Int) (by omega) (by omega)
        have hd1 := HR.out.ltl (j : Int)
        rw [List.length_map, HK.out] at hd1
        rw [hdj2] at hd0 hd1
        have hm9 : ebox (W.heap.size + 1) #[.int .i64 (c : Int)] 3 ∈ (cmE b5 b6 Bs (b5 + 1) K #[.slice (some ⟨bo, oo, none⟩) g.objs.length co, .slice ar g.roots.length cr, vL, vA, vst, .slice (some ⟨gC, 0, none⟩) g.objs.length cC, va] (.slice (some ⟨gC, 0, none⟩) g.objs.length cC) va comp fs ms2 (ebox W.heap.size #[.slice af ob.length cf] 50 :: ebox (W.heap.size + 1) #[.int .i64 (c : Int)] 3 :: (Ds.map edef ++ T))) := List.mem_cons_of_mem _ (List.mem_cons_of_mem _ (List.mem_cons_of_mem _ (List.mem_cons_of_mem _ (List.mem_cons_of_mem _ (List.mem_cons_of_mem _ (List.mem_append_right _ (List.mem_cons_of_mem _ List.mem_cons_self)))))))
        have s0 : W6.cell? ⟨b5, 0, none⟩ = some (.pointer (some ⟨Bs, 0, none⟩)) := by have := hM.cell 0 rfl 0; simpa using this
        have s1 : W6.cell? ⟨b6, 0, none⟩ = some (.slice (some ⟨b5 + 1, 0, none⟩) K K) := by have := hM.cell 1 rfl 0; simpa using this
        have s2 : W6.cell? ⟨Bs, 5, none⟩ = some (.slice (some ⟨gC, 0, none⟩) g.objs.length cC) := by have := hM.cell 2 rfl 5; simpa using this
        obtain ⟨s3, _⟩ := hM.intAt 3 rfl hdj
        obtain ⟨s4, _, _⟩ := hM.mapCell 5 rfl (j := c) (x := .map (some m1.b)) (by rw [List.getElem?_map, hm1]; rfl)
        have s5 : W6.cell? ⟨W.heap.size + 1, 0, none⟩ = some (.int .i64 (c : Int)) := hM.boxCell hm9 0 rfl
        have hj1 : (0 : Int) ≤ (j : Int) := by omega
        have hj2 : (j : Int) < (g.objs.length : Int) := by omega
        have hpl : ∀ a b : Int, ((0 ≤ a ∧ a < (k : Int) ∧ EG g a b) ∨ (a = (k : Int) ∧ b ∈ (pre ++ [(⟨(j : Int), hx⟩ : Tg ob)]).map (·.1))) ↔ (((0 ≤ a ∧ a < (k : Int) ∧ EG g a b) ∨ (a = (k : Int) ∧ b ∈ pre.map (·.1))) ∨ (a = (k : Int) ∧ b = (j : Int))) := by
          intro a b
          rw [List.map_append, List.mem_append]
          simp only [List.map_cons, List.map_nil, List.mem_singleton]
          constructor
          · rintro (h | ⟨h, h2 | h2⟩)
            · exact .inl (.inl h)
            · exact .inl (.inr ⟨h, h2⟩)
            · exact .inr ⟨h, h2⟩
          · rintro ((h | ⟨h, h2⟩) | ⟨h, h2⟩)
            · exact .inl h
            · exact .inr ⟨h, .inl h2⟩
            · exact .inr ⟨h, .inr h2⟩
        have hck9 := Hck.out
        simp only [laid]
        by_cases hdc : dj = (c : Int)
        · have hN3 := (hN2.same (i := (k : Int)) (j := (j : Int)) (by rw [hdj2, hck9, hdc])).congr (fun a b => (hpl a b).symm)
          have HN3 := Lib.hid hN3
          have Hp := Lib.hid (⟨hml2, ⟨m1, hm1⟩, hso2, hn2, hb2⟩ : ms2.length = K ∧ (∃ m1 : MapR, ms2[c]? = some (some m1)) ∧ (∀ (i d : Nat), i < k → rd comp (-1) (i : Int) = (d : Int) → ms2[d]? ≠ some none) ∧ (∀ (d : Nat) (m : MapR), ms2[d]? = some (some m) → m.n ≤ 4 * k + pre.length) ∧ (∀ (d : Nat) (m : MapR), ms2[d]? = some (some m) → m.b < w4.heap.size))
          have HM := Lib.hid hM
          subst hdc
          clear hM hN2 hN3 hpl hso2 hn2 hb2 hm1 hml2 hm9 hxin hck9 hdj hdj2
          gi_wp2
          refine region_round_tail 8 (by kernel_rfl) (by kernel_rfl) (by kernel_rfl) (by rintro ⟨a, w, h⟩; exact h) ?_
          simp only [List.take_succ_cons, List.take_zero, List.drop_succ_cons, List.drop_zero]
          repeat still_step
          try refine wpStill_nil ?_
          go_wp2_with fail
          gi_wp2
          obtain ⟨p1, p2, p3, p4, p5⟩ := Hp.out
          refine ⟨(KeepsOthers.drew _).from _, (Below.refl _ _).drew, ms2, ⟨p1, p2, HN3.out, p3, fun d m hd => by have := p4 d m hd; rw [List.length_append]; omega, p5⟩, HM.out.drew⟩
        · have hm1c : c < ms2.length := by rw [hml2]; exact hcK
          have hN3 := (hN2.put (i := (k : Int)) (j := (j : Int)) (n' := m1.n + 1) hm1 hck9 (by rw [hdj2, hck9]; exact hdc)).congr (fun a b => (hpl a b).symm)
          rw [hdj2] at hN3
          obtain ⟨Wd, hWd⟩ : ∃ Wd, W6.drew = Wd := ⟨_, rfl⟩
          have t0 : Wd.cell? ⟨b5, 0, none⟩ = some (.pointer (some ⟨Bs, 0, none⟩)) := by rw [← hWd]; exact s0
          have t1 : Wd.cell? ⟨b6, 0, none⟩ = some (.slice (some ⟨b5 + 1, 0, none⟩) K K) := by rw [← hWd]; exact s1
          have t2 : Wd.cell? ⟨Bs, 5, none⟩ = some (.slice (some ⟨gC, 0, none⟩) g.objs.length cC) := by rw [← hWd]; exact s2
          have t3 : Wd.cell? ⟨gC, j, none⟩ = some (.int .i64 dj) := by rw [← hWd]; exact s3
          have t4 : Wd.cell? ⟨b5 + 1, c, none⟩ = some (.map (some m1.b)) := by rw [← hWd]; exact s4
          have t5 : Wd.cell? ⟨W.heap.size + 1, 0, none⟩ = some (.int .i64 (c : Int)) := by rw [← hWd]; exact s5
          have hMd0 := hM.drew
          rw [hWd] at hMd0
          have hMd := hMd0.drew
          have HWd := Lib.hid hWd
          have hsz : Wd.heap.size = W6.heap.size := by rw [← hWd]; rfl
          have hhp : Wd.heap = W6.heap := by rw [← hWd]; rfl
          have Hsz := Lib.hid hsz
          have Hhp := Lib.hid hhp
          have hn1 := hn2 c m1 hm1
          have hb1 := hb2 c m1 hm1
          have hs2 : ∀ (m2 : MapR), m2.b = m1.b → m2.n = m1.n + 1 → (ms2.set c (some m2)).length = K ∧ (∃ m1 : MapR, (ms2.set c (some m2))[c]? = some (some m1)) ∧ (∀ (i d : Nat), i < k → rd comp (-1) (i : Int) = (d : Int) → (ms2.set c (some m2))[d]? ≠ some none) ∧ (∀ (d : Nat) (m : MapR), (ms2.set c (some m2))[d]? = some (some m) → m.n ≤ 4 * k + (pre.length + 1)) ∧ (∀ (d : Nat) (m : MapR), (ms2.set c (some m2))[d]? = some (some m) → m.b < w4.heap.size) := by
            intro m2 e1 e2
            refine ⟨by rw [List.length_set]; exact hml2, ⟨m2, List.getElem?_set_self hm1c⟩, ?_, ?_, ?_⟩
            · intro i d hi hd
              by_cases e : d = c
              · subst e; rw [List.getElem?_set_self hm1c]; simp
              · rw [List.getElem?_set_ne (fun e2 => e e2.symm)]; exact hso2 i d hi hd
            · intro d m hd
              by_cases e : d = c
              · subst e; rw [List.getElem?_set_self hm1c] at hd; cases hd; omega
              · rw [List.getElem?_set_ne (fun e2 => e e2.symm)] at hd; have := hn2 d m hd; omega
            · intro d m hd
              by_cases e : d = c
              · subst e; rw [List.getElem?_set_self hm1c] at hd; cases hd; rw [e1]; exact hb1
              · rw [List.getElem?_set_ne (fun e2 => e e2.symm)] at hd; exact hb2 d m hd
          have hput := cm_put (b5 := b5) (b6 := b6) (Bs := Bs) (gN := b5 + 1) (K := K) (S := #[.slice (some ⟨bo, oo, none⟩) g.objs.length co, .slice ar g.roots.length cr, vL, vA, vst, .slice (some ⟨gC, 0, none⟩) g.objs.length cC, va]) (vC := .slice (some ⟨gC, 0, none⟩) g.objs.length cC) (va := va) (comp := comp) (fs := fs) (ms := ms2) (T := ebox W.heap.size #[.slice af ob.length cf] 50 :: ebox (W.heap.size + 1) #[.int .i64 (c : Int)] 3 :: (Ds.map edef ++ T)) (c := c) hm1c hm1 (m' := ⟨m1.b, m1.n + 1, fun u => if u = dj then some (.int .i64 1) else m1.f u⟩) rfl
          have HN3 := Lib.hid hN3
          have Hs2 := Lib.hid (hs2 ⟨m1.b, m1.n + 1, fun u => if u = dj then some (.int .i64 1) else m1.f u⟩ rfl rfl)
          have Hput := Lib.hid hput
          have HMd := Lib.hid hMd
          have Hm1c := Lib.hid hm1
          have Hb1 := Lib.hid hb1
          have hn1b : m1.n ≤ 100000 := by omega
          have HM6 := Lib.hid hM
          clear hM hN2 hN3 hpl hso2 hn2 hb2 hm1 hml2 hm9 hxin hck9 hdj hdj2 hMd hMd0 hWd hs2 hput hb1 hn1 hsz hhp
          gi_wp2
          refine region_round_tail 8 (by kernel_rfl) (by kernel_rfl) (by kernel_rfl) (by rintro ⟨a, w, h⟩; exact h) ?_
          simp only [List.take_succ_cons, List.take_zero, List.drop_succ_cons, List.drop_zero]
          repeat still_step
          try refine wpStill_nil ?_
          go_wp2_with fail
          gi_wp2
          rw [HWd.out]
          refine region_round_tail 11 (by kernel_rfl) (by kernel_rfl) (by kernel_rfl) (by rintro ⟨a, w, h⟩; exact h) ?_
          simp only [List.take_succ_cons, List.take_zero, List.drop_succ_cons, List.drop_zero]
          repeat still_step
          try refine wpStill_nil ?_
          go_wp2_with (at_mapUpdate; refine Mem.wp_putGk (M := mapII) rfl _ _ _ rfl HMd.out (c + 6) (cm_map Hm1c.out) hn1b rfl dj (.int .i64 1) rfl rfl (show i64ok dj from ⟨by omega, by omega⟩) ?_; intro w7 hM7 hs7 hk7)
          try gi_wp2
          obtain ⟨p1, p2, p3, p4, p5⟩ := Hs2.out
          have hM8 := hM7.cast Hput.out
          have hs7b : W6.heap.size ≤ w7.heap.size := by rw [← Hsz.out]; exact hs7
          have hkf : KeepsFrom w4.heap.size W6 w7 := ⟨hs7b, fun q o hq ho _ => by
            have h1 := (Array.getElem?_eq_some_iff.1 ho).1
            have h2 := Hb1.out
            have h3 := hk7 q (by show q < Wd.heap.size; rw [Hsz.out]; exact h1) (by omega)
            refine h3.trans ?_
            show Wd.heap[q]? = some o
            rw [Hhp.out]; exact ho⟩
          refine ⟨hkf, below_between HM6.out.below hM8.below hs7b, _, ⟨p1, p2, HN3.out.congr (fun a b => or_congr Iff.rfl (and_congr Iff.rfl mem_val)), p3, fun d m hd => by have := p4 d m hd; rw [List.length_append]; simpa using this, p5⟩, hM8⟩
      case done =>
        rintro D2 xs W6 hD2 hxs ⟨ms2, ⟨hml2, ⟨m1, hm1⟩, hN2, hso2, hn2, hb2⟩, hM⟩ hK2
        have hxl : xs.length ≤ 4 := by
          have h1 := congrArg List.length hxs
          rw [List.length_map] at h1
          have h2 : (targets ob).length ≤ ob.length := by unfold targets; rw [List.length_map]; exact List.length_filter_le _ _
          omega
        rw [hxs] at hN2
        have hM10 := hM.addDef' (D := D2) (by omega) hK2 (cm_calm _ (fun d m hd => Nat.lt_of_lt_of_le (hb2 d m hd) hD2) (fun x hx W' B0 hok b hb => by
          rcases HT4.out x hx W' B0 hok b hb with h1 | h1
          · exact .inl (Nat.lt_of_lt_of_le h1 hD2)
          · exact .inr h1))
        have hM11 : Mem w.heap.size w W6 (cmE b5 b6 Bs (b5 + 1) K #[.slice (some ⟨bo, oo, none⟩) g.objs.length co, .slice ar g.roots.length cr, vL, vA, vst, .slice (some ⟨gC, 0, none⟩) g.objs.length cC, va] (.slice (some ⟨gC, 0, none⟩) g.objs.length cC) va comp fs ms2 ((D2 :: Ds).map edef ++ T)) := by
          have h := Mem.tailDef (A := [_, _, _, _, _, _] ++ mapsE ms2) hM10
          refine h.drop ?_
          show List.Sublist (([_, _, _, _, _, _] ++ mapsE ms2) ++ (edef D2 :: (Ds.map edef ++ T))) (([_, _, _, _, _, _] ++ mapsE ms2) ++ (edef D2 :: _ :: _ :: (Ds.map edef ++ T)))
          exact List.Sublist.append_left (.cons_cons _ (.cons _ (.cons _ (.refl _)))) _
        have hN3 : NeedS (rd comp (-1)) (fun i j => 0 ≤ i ∧ i < ((k + 1 : Nat) : Int) ∧ EG g i j) ms2 := hN2.congr (fun i j => by
          constructor
          · rintro (⟨h1, h2, h3⟩ | ⟨rfl, h2⟩)
            · exact ⟨h1, by omega, h3⟩
            · exact ⟨by omega, by omega, by unfold EG; rw [Hfo.out]; exact ⟨by omega, h2⟩⟩
          · rintro ⟨h1, h2, h3⟩
            by_cases e : i = (k : Int)
            · subst e
              unfold EG at h3
              rw [Hfo.out] at h3
              exact .inr ⟨rfl, h3.2⟩
            · exact .inl ⟨h1, by omega, h3⟩)
        have HM11 := Lib.hid hM11
        have HN3 := Lib.hid hN3
        have Hp := Lib.hid (⟨hml2, ⟨m1, hm1⟩, hso2, hn2⟩ : ms2.length = K ∧ (∃ m1 : MapR, ms2[c]? = some (some m1)) ∧ (∀ (i d : Nat), i < k → rd comp (-1) (i : Int) = (d : Int) → ms2[d]? ≠ some none) ∧ (∀ (d : Nat) (m : MapR), ms2[d]? = some (some m) → m.n ≤ 4 * k + xs.length))
        clear hM hM10 hM11 hN2 hN3 hK2 hxs hb2 hso2 hn2 hm1 hml2
        gi_wp2
        obtain ⟨p1, ⟨m1, p2⟩, p3, p4⟩ := Hp.out
        refine ⟨g.objs.length - (k + 1), D2 :: Ds, by omega, rfl, rfl, k + 1, ms2, rfl, by omega, rfl, p1, HN3.out, ?_, ?_, HM11.out⟩
        · intro i d hi hd
          by_cases e : i = k
          · subst e
            have h1 := Hck.out
            rw [h1] at hd
            obtain rfl : c = d := by omega
            rw [p2]; simp
          · exact p3 i d (by omega) hd
        · intro d m hd
          have := p4 d m hd
          omega
  · obtain rfl : k = g.objs.length := by omega
    have hE : ∀ i j, EG g i j → i < (g.objs.length : Int) := by
      rintro i j ⟨h0, h1⟩
      rcases Int.lt_or_le i g.objs.length with h2 | h2
      · exact h2
      · exfalso
        have : fieldsAt g i = [] := by
          unfold fieldsAt
          rw [List.getD_eq_getElem?_getD, List.getElem?_eq_none (by omega)]; rfl
        rw [this] at h1; simp [targets] at h1
    have hI := hN.start hml (by rw [List.length_map]; exact HK.out) HR.out hE hsome
    have hM8 : Mem w.heap.size w W (rowR (.slice none 0 0) (([] : List Nat).map fun c : Nat => (fs.getD c (.slice none 0 0, [])).1) :: cmE b5 b6 Bs (b5 + 1) K #[.slice ao g.objs.length co, .slice ar g.roots.length cr, vL, vA, vst, vC, va] vC va comp fs ms (Ds.map edef ++ T)) := hM.nil 27 1
    have HI := Lib.hid hI
    have HM8 := Lib.hid hM8
    clear hN hsome hmn hM hu hE hI hM8 hml hlt hk
    gi_wp2
    refine wpIn_wide.2 ?_
    go_loopg [11, 12, 13, 14, 16, 92, 146] K (fun gk s11 s12 s13 s14 s16 s92 s146 wr => ∃ (o : List Nat) (ms : List (Option MapR)), gk = K - o.length ∧ Took (EG g) (rd comp (-1)) K (o.map fun c : Nat => (c : Int)) ∧ MsI (EG g) (rd comp (-1)) K (o.map fun c : Nat => (c : Int)) ms ∧
      Mem w.heap.size w wr (rowR s11 (o.map fun c : Nat => (fs.getD c (.slice none 0 0, [])).1) :: cmE b5 b6 Bs (b5 + 1) K #[.slice ao g.objs.length co, .slice ar g.roots.length cr, vL, vA, vst, vC, va] vC va comp fs ms (Ds.map edef ++ T)))
    case atStart => exact ⟨[], ms, rfl, Took.nil K, HI.out, HM8.out⟩
    case round =>
      clear HM8 HI
      obtain ⟨o, ms, hgk, hTk, hI, hM⟩ := hrel
      obtain ⟨aO, cO, hvO⟩ := hM.rowRSlice 0 rfl
      obtain ⟨lo, hlo2⟩ : ∃ lo, o.length = lo := ⟨_, rfl⟩
      rw [List.length_map, hlo2] at hvO
      subst hvO
      have s0 : wr.cell? ⟨b5, 0, none⟩ = some (.pointer (some ⟨Bs, 0, none⟩)) := by have := hM.cell 1 rfl 0; simpa using this
      have s1 : wr.cell? ⟨b6, 0, none⟩ = some (.slice (some ⟨b5 + 1, 0, none⟩) K K) := by have := hM.cell 2 rfl 0; simpa using this
      have s2 : wr.cell? ⟨Bs, 6, none⟩ = some (.slice aA K cA) := by have := hM.cell 3 rfl 6; rw [Hva.out] at this; simpa using this
      rw [hlo2] at hgk
      by_cases ho : lo < K
      · have hoK : (lo : Int) < (K : Int) := by omega
        have hne : fs.map (·.1) ≠ [] := by intro e; have := congrArg List.length e; rw [List.length_map, HK.out] at this; simp at this; omega
        obtain ⟨gA, hgA⟩ : ∃ gA, aA = some ⟨gA, 0, none⟩ := by
          have hr : wr.ownsRow w.heap.size 27 1 va (fs.map (·.1)).length (fs.map (·.1)) := hM.row 5 rfl
          rcases hr.2 with ⟨_, h0⟩ | ⟨g, cap, cur, h1, _⟩
          · exact (hne (List.eq_nil_of_length_eq_zero h0)).elim
          · rw [Hva.out] at h1; cases h1; exact ⟨g, rfl⟩
        subst hgA
        obtain ⟨Wf, hWf⟩ : ∃ Wf, Wf = wr := ⟨_, rfl⟩
        subst hWf
        obtain ⟨gO, hgO⟩ : ∃ gO, gk = gO := ⟨_, rfl⟩
        have HgO := Lib.hid hgO
        have Hgk := Lib.hid hgk
        have Hlo := Lib.hid hlo2
        have HTk := Lib.hid hTk
        have HI := Lib.hid hI
        have HM := Lib.hid hM
        have hcell : ∀ c : Nat, c < K → ∃ (gc nc cc : Nat) (y : Int), 0 < nc ∧ (fs.getD c (.slice none 0 0, [])).1 = .slice (some ⟨gc, 0, none⟩) nc cc ∧ (∀ p, (Wf.drewN p).cell? ⟨gA, c, none⟩ = some (.slice (some ⟨gc, 0, none⟩) nc cc)) ∧ (∀ p, (Wf.drewN p).cell? ⟨gc, 0, none⟩ = some (.int .i64 y)) := by
          intro c hc
          obtain ⟨⟨vm, cm⟩, hfm⟩ := get_some fs c (by rw [HK.out]; exact hc)
          have hcm := (HR.out.cls c cm (by rw [List.getElem?_map, hfm]; rfl)).1
          have hmem : rowI 3 vm cm ∈ (rowR (.slice aO lo cO) (o.map fun c : Nat => (fs.getD c (.slice none 0 0, [])).1) :: cmE b5 b6 Bs (b5 + 1) K #[.slice ao g.objs.length co, .slice ar g.roots.length cr, vL, vA, vst, vC, va] vC va comp fs ms (Ds.map edef ++ T)) := by
            have h1 : rowI 3 vm cm ∈ T := by rw [← HT.out]; exact List.mem_append_left _ (List.mem_map.2 ⟨(vm, cm), List.mem_of_getElem? hfm, rfl⟩)
            exact List.mem_cons_of_mem _ (List.mem_cons_of_mem _ (List.mem_cons_of_mem _ (List.mem_cons_of_mem _ (List.mem_cons_of_mem _ (List.mem_cons_of_mem _ (List.mem_cons_of_mem _ (List.mem_append_right _ (List.mem_append_right _ h1))))))))
          obtain ⟨i, hi⟩ := List.mem_iff_getElem?.1 hmem
          have hM2 := HM.out
          obtain ⟨gc, cc, hv, _, _, hcs, _⟩ := hM2.intsAt i hi hcm
          obtain ⟨y, hy⟩ := get_some cm 0 (List.length_pos_iff.2 hcm)
          have hrc := (hM2.row 5 rfl)
          refine ⟨gc, cm.length, cc, y, List.length_pos_iff.2 hcm, by rw [List.getD_eq_getElem?_getD, hfm]; exact hv, fun p => ?_, fun p => ?_⟩
          · have hMp := hM2.drewN p
            rw [Hva.out] at hMp
            have h2 := (hMp.rowCell 5 rfl (j := c) (x := vm) (by rw [List.getElem?_map, hfm]; rfl)).1
            rw [hv] at h2; exact h2
          · exact hcs 0 y hy
        have Hcell := Lib.hid hcell
        clear hgO hgk hlo2 hTk hI hM hcell hne
        have qT : ∀ (w : World) (r : Option Nat), (binOp .neq 67 (.map r) (.map none)).run Try.prog w = .ok (.bool (!r.isNone)) w := fun w r => run_neq_map_nil w _ _ _ r Try.underlying67
        go_wp2_with fail
        go_loopg [12, 13, 14, 92] K (fun g3 s12 s13 s14 s92 wi => ∃ (q p : Nat), q ≤ K ∧ g3 = K - q ∧ s92 = .int .i64 (q : Int) ∧ wi = Wf.drewN p ∧ ((s12 = .int .i64 (-1) ∧ Hid (∀ c : Nat, c < q → ¬ Cand (EG g) (rd comp (-1)) (o.map fun c : Nat => (c : Int)) (c : Int))) ∨
          ∃ b : Nat, b < K ∧ s12 = .int .i64 (b : Int) ∧ Hid (Cand (EG g) (rd comp (-1)) (o.map fun c : Nat => (c : Int)) (b : Int))))
        case atStart => exact ⟨0, 0, Nat.zero_le _, rfl, rfl, rfl, .inl ⟨rfl, Lib.hid (fun c h => absurd h (Nat.not_lt_zero _))⟩⟩
        case round =>
          obtain ⟨q, p, hq, hg3, rfl, hwi, hbest⟩ := hrel
          by_cases hqK : q < K
          · have hMw := HM.out.drewN p
            rw [← hwi] at hMw
            have u0 : wr.cell? ⟨b5, 0, none⟩ = some (.pointer (some ⟨Bs, 0, none⟩)) := by rw [hwi]; exact s0
            have u1 : wr.cell? ⟨b6, 0, none⟩ = some (.slice (some ⟨b5 + 1, 0, none⟩) K K) := by rw [hwi]; exact s1
            have u2 : wr.cell? ⟨Bs, 6, none⟩ = some (.slice (some ⟨gA, 0, none⟩) K cA) := by rw [hwi]; exact s2
            obtain ⟨gc, nc, cc, y, hnc, hv1, hc1, hc2⟩ := Hcell.out q hqK
            have v1 := hc1 p
            have v2 := hc2 p
            rw [← hwi] at v1 v2
            have hnc2 : (0 : Int) < (nc : Int) := by omega
            have hq1 : (0 : Int) ≤ (q : Int) := by omega
            have hq2 : (q : Int) < (K : Int) := by omega
            obtain ⟨r, hr⟩ := get_some ms q (by rw [HI.out.len]; exact hqK)
            obtain ⟨v3, _, _⟩ := hMw.mapCell 6 rfl (j := q) (x := mval r) (by rw [List.getElem?_map, hr]; rfl)
            have Hwi := Lib.hid hwi
            have Hg3 := Lib.hid hg3
            have Hr := Lib.hid hr
            by_cases hqo : (q : Int) ∈ (o.map fun c : Nat => (c : Int))
            · have hg := HI.out.gone q hqK hqo
              rw [Hr.out] at hg
              cases hg
              simp only [mval] at v3
              have hnew : ∀ c : Nat, c < q + 1 → (∀ c : Nat, c < q → ¬ Cand (EG g) (rd comp (-1)) (o.map fun c : Nat => (c : Int)) (c : Int)) → ¬ Cand (EG g) (rd comp (-1)) (o.map fun c : Nat => (c : Int)) (c : Int) := by
                intro c hc hall
                by_cases e : c = q
                · subst e; exact fun h => h.1 hqo
                · exact hall c (by omega)
              have Hnew := Lib.hid hnew
              clear hMw hr hwi hg3 hqo hnew hc1 hc2 hv1
              go_wp2_with fail
              go_quiet (fail)
              go_wp2
              go_roundg (K - (q + 1))
              case rel =>
                refine ⟨q + 1, _, by omega, rfl, by go_num, by rw [Hwi.out, World.drewN_drewN], ?_⟩
                rcases hbest with ⟨h1, h2⟩ | ⟨b, h1, h2, h3⟩
                · exact .inl ⟨h1, Lib.hid (fun c hc => Hnew.out c hc h2.out)⟩
                · exact .inr ⟨b, h1, h2, h3⟩
              case measure => have := Hg3.out; omega
            · obtain ⟨m, hm, hf⟩ := HI.out.left q hqK hqo
              rw [Hr.out] at hm
              cases hm
              simp only [mval] at v3
              have hmok : (gmap mapII m.b m.n m.f).ok w.heap.size wr := cm_ok hMw hr
              obtain ⟨cnt, hcnt, hrun⟩ := gmap_len' hmok 3
              have hrun0 := hrun 0
              have hin : ∀ d, CE (EG g) (rd comp (-1)) (q : Int) d → i64ok d := fun d hd => by
                have h1 := HR.out.ce_lt (by omega) hd
                exact ⟨by omega, by omega⟩
              have hcand : cnt = 0 ↔ Cand (EG g) (rd comp (-1)) (o.map fun c : Nat => (c : Int)) (q : Int) := by
                rw [hcnt]
                constructor
                · intro h
                  refine ⟨hqo, fun d hd => ?_⟩
                  apply Classical.byContradiction
                  intro hno
                  exact (hf d).2 ⟨hd, hno⟩ (h d (hin d hd))
                · intro h x _
                  apply Classical.byContradiction
                  intro hx
                  have h2 := (hf x).1 hx
                  exact h2.2 (h.2 x h2.1)
              have Hcand := Lib.hid hcand
              clear hMw hr hwi hg3 hqo hc1 hc2 hv1 hf hmok hcnt hin hcand
              by_cases hz : cnt = 0
              · have Hc := Lib.hid (Hcand.out.1 hz)
                subst hz
                rcases hbest with ⟨rfl, h2⟩ | ⟨b, h1, rfl, h3⟩
                · go_wp2_with fail
                  go_quiet (fail)
                  go_wp2
                  go_roundg (K - (q + 1))
                  case rel => exact ⟨q + 1, _, by omega, rfl, by go_num, by rw [Hwi.out, World.drewN_drewN], .inr ⟨q, hqK, rfl, Hc⟩⟩
                  case measure => have := Hg3.out; omega
                · obtain ⟨gb, nb, cb, yb, hnb, hvb, hb1, hb2⟩ := Hcell.out b h1
                  have x1 := hb1 p
                  have x2 := hb2 p
                  rw [← Hwi.out] at x1 x2
                  have hnb2 : (0 : Int) < (nb : Int) := by omega
                  have hbb1 : (0 : Int) ≤ (b : Int) := by omega
                  have hbb2 : (b : Int) < (K : Int) := by omega
                  have hbb3 : ¬ (b : Int) < 0 := by omega
                  have hbb4 : decide ((b : Int) < 0) = false := by simp
                  clear hb1 hb2 hvb
                  by_cases hy : y < yb
                  · have hy2 : decide (y < yb) = true := by simpa using hy
                    go_wp2_with fail
                    go_quiet (fail)
                    go_wp2
                    go_roundg (K - (q + 1))
                    case rel => exact ⟨q + 1, _, by omega, rfl, by go_num, by rw [Hwi.out, World.drewN_drewN], .inr ⟨q, hqK, rfl, Hc⟩⟩
                    case measure => have := Hg3.out; omega
                  · have hy2 : decide (y < yb) = false := by simpa using hy
                    go_wp2_with fail
                    go_quiet (fail)
                    go_wp2
                    go_roundg (K - (q + 1))
                    case rel => exact ⟨q + 1, _, by omega, rfl, by go_num, by rw [Hwi.out, World.drewN_drewN], .inr ⟨b, h1, rfl, h3⟩⟩
                    case measure => have := Hg3.out; omega
              · have hz2 : ¬ (cnt : Int) = 0 := by omega
                have hz3 : ((cnt : Int) == 0) = false := by simpa using hz
                have hno : ¬ Cand (EG g) (rd comp (-1)) (o.map fun c : Nat => (c : Int)) (q : Int) := fun h => hz (Hcand.out.2 h)
                have Hno := Lib.hid hno
                clear hno
                go_wp2_with fail
                go_quiet (fail)
                go_wp2
                go_roundg (K - (q + 1))
                case rel =>
                  refine ⟨q + 1, _, by omega, rfl, by go_num, by rw [Hwi.out, World.drewN_drewN], ?_⟩
                  rcases hbest with ⟨h1, h2⟩ | ⟨b, h1, h2, h3⟩
                  · refine .inl ⟨h1, Lib.hid (fun c hc => ?_)⟩
                    by_cases e : c = q
                    · subst e; exact Hno.out
                    · exact h2.out c (by omega)
                  · exact .inr ⟨b, h1, h2, h3⟩
                case measure => have := Hg3.out; omega
          · obtain rfl : q = K := by omega
            rcases hbest with ⟨rfl, h2⟩ | ⟨b, hbK, rfl, hbc⟩
            · exfalso
              obtain ⟨c, h5, h6⟩ := HR.out.next (o := o.map fun c : Nat => (c : Int)) (by rw [List.length_map, List.length_map, HK.out, Hlo.out]; exact ho)
              rw [List.length_map, HK.out] at h5
              exact h2.out c h5 h6
            have hMw := HM.out.drewN p
            rw [← hwi] at hMw
            have u0 : wr.cell? ⟨b5, 0, none⟩ = some (.pointer (some ⟨Bs, 0, none⟩)) := by rw [hwi]; exact s0
            have u1 : wr.cell? ⟨b6, 0, none⟩ = some (.slice (some ⟨b5 + 1, 0, none⟩) q q) := by rw [hwi]; exact s1
            have u2 : wr.cell? ⟨Bs, 6, none⟩ = some (.slice (some ⟨gA, 0, none⟩) q cA) := by rw [hwi]; exact s2
            obtain ⟨gc, nc, cc, y, hnc, hv1, hc1, hc2⟩ := Hcell.out b hbK
            have v1 := hc1 p
            rw [← hwi] at v1
            have hbb1 : (0 : Int) ≤ (b : Int) := by omega
            have hbb2 : (b : Int) < (q : Int) := by omega
            have Hv1 := Lib.hid hv1
            have hlo5 : lo ≤ 1000000 := by omega
            have hbm : b < ms.length := by rw [HI.out.len]; exact hbK
            have Hbm := Lib.hid hbm
            have hMw0 := hMw
            rw [Hlo.out.symm] at hMw0
            clear hwi hc1 hc2 hv1 hnc hbm
            go_wp2_with (at_builtin; refine Mem.wp_appR rfl (.tmp 131) (.tmp 139) rfl hMw 0 rfl lo (by rw [List.length_map]; exact Hlo.out) rfl _ (.slice (some ⟨gc, 0, none⟩) nc cc) rfl _ _ rfl (by simp) hlo5 ?_; intro ad cp w9 hM9 hs9; have y1 : w9.cell? ⟨b6, 0, none⟩ = some (.slice (some ⟨b5 + 1, 0, none⟩) q q) := (by have := hM9.cell 2 rfl 0; simpa using this); obtain ⟨y2, y3, y4⟩ := hM9.mapCell 6 rfl (j := b) (x := mval (ms[b]'Hbm.out)) (by rw [List.getElem?_map, List.getElem?_eq_getElem Hbm.out]; rfl); have hMx := hM9.setM 6 rfl (by rw [List.length_map, HI.out.len]) b (.map none); have y5 : (w9.setCell ⟨b5 + 1, b, none⟩ (.map none)).cell? ⟨b6, 0, none⟩ = some (.slice (some ⟨b5 + 1, 0, none⟩) q q) := (by have := hMx.cell 2 rfl 0; simpa using this))
            have hMd : Mem w.heap.size w (w9.setCell ⟨b5 + 1, b, none⟩ (.map none)) (rowR (.slice ad (lo + 1) cp) ((o.map fun c : Nat => (fs.getD c (.slice none 0 0, [])).1) ++ [.slice (some ⟨gc, 0, none⟩) nc cc]) ::
                cmE b5 b6 Bs (b5 + 1) q #[.slice ao g.objs.length co, .slice ar g.roots.length cr, vL, vA, vst, vC, va] vC va comp fs (ms.set b none) (Ds.map edef ++ T)) := by
              have hbq := Hbm.out
              have h := hMx.forget (b + 7) (by simp [cmE, mapsE]; omega)
              refine h.cast ?_
              show _ :: _ = _ :: _
              rw [← cm_nil b5 b6 Bs (b5 + 1) q _ vC va comp fs ms (Ds.map edef ++ T) hbq]
            have HMd := Lib.hid hMd
            clear hMd hMx y1 y2 y3 y4 y5 hM9 hMw hMw0 u0 u1 u2 v1 s0 s1 s2
            go_loopg [16, 146] q (fun g4 t16 t146 wi => ∃ (k : Nat) (mk : List (Option MapR)), k ≤ q ∧ g4 = q - k ∧ t146 = .int .i64 (k : Int) ∧ MsD (EG g) (rd comp (-1)) q (o.map fun c : Nat => (c : Int)) (b : Int) k mk ∧
              Mem w.heap.size w wi (rowR (.slice ad (lo + 1) cp) ((o.map fun c : Nat => (fs.getD c (.slice none 0 0, [])).1) ++ [.slice (some ⟨gc, 0, none⟩) nc cc]) ::
                cmE b5 b6 Bs (b5 + 1) q #[.slice ao g.objs.length co, .slice ar g.roots.length cr, vL, vA, vst, vC, va] vC va comp fs mk (Ds.map edef ++ T)))
            case atStart => exact ⟨0, ms.set b none, Nat.zero_le _, rfl, rfl, HI.out.cut b hbK, HMd.out⟩
            case round =>
              obtain ⟨k, mk, hk, hg4, rfl, hD, hM4⟩ := hrel
              have HD := Lib.hid hD
              have Hg4 := Lib.hid hg4
              have HM4 := Lib.hid hM4
              by_cases hkq : k < q
              · have hk1 : (0 : Int) ≤ (k : Int) := by omega
                have hk2 : (k : Int) < (q : Int) := by omega
                obtain ⟨r, hr⟩ := get_some mk k (by rw [hD.len]; exact hkq)
                have Hr := Lib.hid hr
                obtain ⟨z1, _, _⟩ := hM4.mapCell 6 rfl (j := k) (x := mval r) (by rw [List.getElem?_map, hr]; rfl)
                clear hD hg4 hr
                cases r with
                | none =>
                  simp only [mval] at z1
                  have qD : ∀ ty : TypeId, (Builtin.delete_ #[67, 3] ty #[.map none, .int .i64 (b : Int)]).run Try.prog wr = .ok (.tuple #[]) wr := Maps.drop_nil (P := Try.prog) (w := wr) mapII.keyed mapII.under (key := .int .i64 (b : Int)) (mapII.key (b : Int) ⟨by omega, by omega⟩)
                  go_wp2
                  go_roundg (q - (k + 1))
                  case rel => exact ⟨k + 1, mk, by omega, rfl, by go_num, HD.out.skip hkq Hr.out, HM4.out⟩
                  case measure => have := Hg4.out; omega
                | some m =>
                  simp only [mval] at z1
                  have hb64 : i64ok (b : Int) := ⟨by omega, by omega⟩
                  have Hb64 := Lib.hid hb64
                  clear hb64
                  go_wp2_with (refine Mem.wp_delG (M := mapII) rfl (.tmp 150) (.tmp 151) rfl HM4.out (k + 7) (cm_at Hr.out) rfl (b : Int) rfl Hb64.out ?_; intro w5 hM5 hs5)
                  go_roundg (q - (k + 1))
                  case rel => exact ⟨k + 1, _, by omega, rfl, by go_num, HD.out.take hkq Hr.out, hM5.cast (cm_del _ _ _ _ _ _ _ _ _ _ _ _ _ Hr.out _)⟩
                  case measure => have := Hg4.out; omega
              · obtain rfl : k = q := by omega
                go_wp2
                go_roundg (k - (lo + 1))
                case rel =>
                  have h1 := HTk.out.snoc (c := (b : Int)) ⟨by omega, by omega⟩ hbc.out.1 hbc.out.2
                  have h2 := HD.out.fin (Nat.le_refl _)
                  have hll := Hlo.out
                  refine ⟨o ++ [b], mk, by rw [List.length_append, hll]; rfl, by rw [List.map_append]; exact h1, by rw [List.map_append]; exact h2, hM4.cast ?_⟩
                  rw [List.map_append, ← Hv1.out]
                  rfl
                case measure => have := Hgk.out; omega
      · have hlo : lo = K := by
          have h1 := hTk.len
          rw [List.length_map, hlo2] at h1
          omega
        have hfl : Mem w.heap.size w wr (Ds.map edef ++ (rowR (.slice aO lo cO) (o.map fun c : Nat => (fs.getD c (.slice none 0 0, [])).1) :: T)) := by
          refine (hM.drop (L' := rowR (.slice aO lo cO) (o.map fun c : Nat => (fs.getD c (.slice none 0 0, [])).1) :: (Ds.map edef ++ T)) (.cons_cons _ ?_)).perm List.perm_middle
          exact ((((((List.sublist_append_right _ _).cons _).cons _).cons _).cons _).cons _).cons _
        have Hfl := Lib.hid hfl
        have HTk := Lib.hid hTk
        have Hlo2 := Lib.hid hlo2
        have Hlo := Lib.hid hlo
        clear hM hI hTk hgk hlo2 hlo hfl
        go_wp2
        gi_wp2
        refine leaves_marks (v := .tuple #[.slice aO lo cO, .int .i64 0]) Ds _ Hfl.out ?_
        intro W' hM3
        have hTk := HTk.out
        rw [← HK.out] at hTk
        refine ⟨by simp [results, Try.results21, go_sem], _, comp, fs, o, rfl, HR.out, hTk, by rw [Hlo2.out, Hlo.out, HK.out], hM3.drop (.cons_cons _ ?_)⟩
        rw [← HT.out]
        exact List.sublist_append_left _ _
end Go.Proofs.Ytnpbdabboecpaaa
