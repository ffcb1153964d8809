/- Who keeps whom: the tree grows. Plain, over any graph told by ranks and by who comes ahead of each. -/
import Derived.Test.YtnpbdabboecpaaaPk
namespace Go.Proofs.Ytnpbdabboecpaaa.Dom

structure Dg where
  P : Int → Prop
  R : Int → Nat
  pre : Int → List Int
structure Dg.Ok (D : Dg) : Prop where
  pos : ∀ x, D.P x → 0 ≤ x
  inj : ∀ x y, D.P x → D.P y → D.R x = D.R y → x = y
  prein : ∀ x, D.P x → ∀ j ∈ D.pre x, j = -1 ∨ D.P j
  fwd : ∀ x, D.P x → ∃ j ∈ D.pre x, j = -1 ∨ (D.P j ∧ D.R j < D.R x)
/-- a stands on the way up from an object, or is that. -/
inductive Anc (U : Int → Int) (a : Int) : Int → Prop
  | here : 0 ≤ a → Anc U a a
  | up {x : Int} : 0 ≤ x → Anc U a (U x) → Anc U a x
section
variable {D : Dg} {U : Int → Int}
theorem Anc.pos {a x : Int} (h : Anc U a x) : 0 ≤ x := by cases h <;> assumption
theorem Anc.pos' {a x : Int} (h : Anc U a x) : 0 ≤ a := by
  induction h with
  | here h => exact h
  | up _ _ ih => exact ih
theorem no_anc {a x : Int} (h : x < 0) : ¬ Anc U a x := fun ha => by have := ha.pos; omega
theorem Anc.trans {a b c : Int} (h : Anc U a b) (h2 : Anc U b c) : Anc U a c := by
  induction h2 with
  | here _ => exact h
  | up h0 _ ih => exact .up h0 ih
theorem anc_cases {a x : Int} (h : Anc U a x) : a = x ∨ Anc U a (U x) := by
  cases h with
  | here _ => exact .inl rfl
  | up _ h => exact .inr h
/-- Is an object reckoned? -/
def Rk (D : Dg) (U : Int → Int) (x : Int) : Prop := D.P x ∧ U x ≠ -2
def St (D : Dg) (U : Int → Int) : Prop := ∀ x, Rk D U x → U x = -1 ∨ (Rk D U (U x) ∧ D.R (U x) < D.R x)
theorem anc_rk (hs : St D U) {a x : Int} (h : Anc U a x) : Rk D U x → Rk D U a ∧ (a = x ∨ D.R a < D.R x) := by
  induction h with
  | here _ => exact fun h => ⟨h, .inl rfl⟩
  | up h0 ha ih =>
    intro hx
    rcases hs _ hx with h1 | ⟨h1, h2⟩
    · rw [h1] at ha; exact absurd ha (no_anc (by omega))
    · obtain ⟨h3, h4⟩ := ih h1
      refine ⟨h3, .inr ?_⟩
      rcases h4 with rfl | h4
      · exact h2
      · omega
theorem anc_le (hs : St D U) {a x : Int} (h : Anc U a x) (hx : Rk D U x) : D.R a ≤ D.R x := by
  rcases (anc_rk hs h hx).2 with rfl | h1
  · exact Nat.le_refl _
  · exact Nat.le_of_lt h1
theorem anc_linear (hs : St D U) {a b x : Int} (hb : Anc U b x) : Anc U a x → Rk D U x → D.R a ≤ D.R b → Anc U a b := by
  induction hb with
  | here _ => exact fun ha _ _ => ha
  | up h0 hb ih =>
    intro ha hx hle
    rcases hs _ hx with h1 | ⟨h1, h2⟩
    · rw [h1] at hb; exact absurd hb (no_anc (by omega))
    · rcases anc_cases ha with rfl | ha
      · have := anc_le hs hb h1; omega
      · exact ih ha h1 hle
/-! Who keeps both. -/
def MeetS (D : Dg) (U : Int → Int) (a b m : Int) : Prop := (m = -1 ∨ Rk D U m) ∧ ∀ c, Anc U c m ↔ Anc U c a ∧ Anc U c b
theorem meet_none {a b : Int} (h : a < 0 ∨ b < 0) : MeetS D U a b (-1) := by
  refine ⟨.inl rfl, fun c => ⟨fun h => absurd h (no_anc (by omega)), fun ⟨h1, h2⟩ => ?_⟩⟩
  rcases h with h | h
  · exact absurd h1 (no_anc h)
  · exact absurd h2 (no_anc h)
theorem meet_same {a : Int} (h : a = -1 ∨ Rk D U a) : MeetS D U a a a := ⟨h, fun _ => ⟨fun h => ⟨h, h⟩, fun h => h.1⟩⟩
theorem meet_left (hs : St D U) {a b m : Int} (hb : Rk D U b) (hR : D.R b < D.R a) (h : MeetS D U (U a) b m) (ha : 0 ≤ a) : MeetS D U a b m := by
  refine ⟨h.1, fun c => (h.2 c).trans ⟨fun ⟨h1, h2⟩ => ⟨.up ha h1, h2⟩, fun ⟨h1, h2⟩ => ⟨?_, h2⟩⟩⟩
  rcases anc_cases h1 with rfl | h1
  · have := anc_le hs h2 hb; omega
  · exact h1
theorem meet_right (hs : St D U) {a b m : Int} (ha : Rk D U a) (hR : D.R a < D.R b) (h : MeetS D U a (U b) m) (hb : 0 ≤ b) : MeetS D U a b m := by
  refine ⟨h.1, fun c => (h.2 c).trans ⟨fun ⟨h1, h2⟩ => ⟨h1, .up hb h2⟩, fun ⟨h1, h2⟩ => ⟨h1, ?_⟩⟩⟩
  rcases anc_cases h2 with rfl | h2
  · have := anc_le hs h1 ha; omega
  · exact h2
/-! One object's turn. -/
def Cons (U : Int → Int) (j : Int) : Prop := ¬ (0 ≤ j ∧ U j = -2)
def Mt (D : Dg) (U : Int → Int) (pp : List Int) (m : Int) : Prop :=
  ((∀ j ∈ pp, ¬ Cons U j) ∧ m = -2) ∨ ((∃ j ∈ pp, Cons U j) ∧ (m = -1 ∨ Rk D U m) ∧ ∀ c, Anc U c m ↔ ∀ j ∈ pp, Cons U j → Anc U c j)
theorem Mt.nil : Mt D U [] (-2) := .inl ⟨by simp, rfl⟩
theorem Mt.skip {pp : List Int} {m j : Int} (h : Mt D U pp m) (hj : ¬ Cons U j) : Mt D U (pp ++ [j]) m := by
  rcases h with ⟨h1, h2⟩ | ⟨⟨i, hi, h1⟩, h2, h3⟩
  · refine .inl ⟨fun i hi => ?_, h2⟩
    rcases List.mem_append.1 hi with hi | hi
    · exact h1 i hi
    · rw [List.mem_singleton.1 hi]; exact hj
  · refine .inr ⟨⟨i, List.mem_append_left _ hi, h1⟩, h2, fun c => (h3 c).trans ⟨fun h k hk hc => ?_, fun h k hk => h k (List.mem_append_left _ hk)⟩⟩
    rcases List.mem_append.1 hk with hk | hk
    · exact h k hk hc
    · rw [List.mem_singleton.1 hk] at hc; exact absurd hc hj
theorem Mt.first {pp : List Int} {j : Int} (h : Mt D U pp (-2)) (hj : Cons U j) (hr : j = -1 ∨ Rk D U j) (hp : D.Ok) : Mt D U (pp ++ [j]) j := by
  rcases h with ⟨h1, _⟩ | ⟨_, h2, _⟩
  · refine .inr ⟨⟨j, by simp, hj⟩, hr, fun c => ⟨fun h k hk hc => ?_, fun h => h j (by simp) hj⟩⟩
    rcases List.mem_append.1 hk with hk | hk
    · exact absurd hc (h1 k hk)
    · rw [List.mem_singleton.1 hk]; exact h
  · rcases h2 with h2 | h2
    · omega
    · have := hp.pos _ h2.1; omega
theorem Mt.meet {pp : List Int} {u j m : Int} (h : Mt D U pp u) (hu : u ≠ -2) (hj : Cons U j) (hm : MeetS D U u j m) : Mt D U (pp ++ [j]) m := by
  rcases h with ⟨_, h2⟩ | ⟨⟨i, hi, h1⟩, h2, h3⟩
  · exact absurd h2 hu
  · refine .inr ⟨⟨i, List.mem_append_left _ hi, h1⟩, hm.1, fun c => (hm.2 c).trans ⟨fun ⟨ha, hb⟩ k hk hc => ?_, fun h => ⟨(h3 c).2 fun k hk hc => h k (List.mem_append_left _ hk) hc, h j (by simp) hj⟩⟩⟩
    rcases List.mem_append.1 hk with hk | hk
    · exact (h3 c).1 ha k hk hc
    · rw [List.mem_singleton.1 hk]; exact hb
theorem Mt.rk {pp : List Int} {u : Int} (h : Mt D U pp u) (hu : u ≠ -2) : u = -1 ∨ Rk D U u := by
  rcases h with ⟨_, h2⟩ | ⟨_, h2, _⟩
  · exact absurd h2 hu
  · exact h2
/-- What holds when the next turn is that of rank p; Dm: who keeps whom. -/
structure Inv (D : Dg) (Dm : Int → Int → Prop) (U : Int → Int) (p : Nat) : Prop where
  st : St D U
  low : ∀ y, D.P y → D.R y < p → U y ≠ -2
  down : ∀ x y, Rk D U x → D.P y → D.R y < D.R x → U y ≠ -2
  big : ∀ x c, Rk D U x → (∀ j ∈ D.pre x, Cons U j → Anc U c j) → Anc U c (U x)
  fw : ∀ x, Rk D U x → ∀ j ∈ D.pre x, (j = -1 ∨ (D.P j ∧ D.R j < D.R x)) → ∀ k, Anc U k (U x) → (D.R x < p ∨ p ≤ D.R k) → Anc U k j
  sem : ∀ x v, Rk D U x → Dm v x → Anc U v (U x)
theorem Inv.start (D : Dg) (Dm : Int → Int → Prop) (h : ∀ x, U x = -2) : Inv D Dm U 0 := by
  have hn : ∀ x, ¬ Rk D U x := fun x hx => hx.2 (h x)
  exact ⟨fun x hx => absurd hx (hn x), fun _ _ h => absurd h (Nat.not_lt_zero _), fun x _ hx => absurd hx (hn x), fun x _ hx => absurd hx (hn x), fun x hx => absurd hx (hn x), fun x _ hx => absurd hx (hn x)⟩
theorem Inv.again {Dm : Int → Int → Prop} {N : Nat} (h : Inv D Dm U N) (hN : ∀ x, D.P x → D.R x < N) : Inv D Dm U 0 :=
  ⟨h.st, fun _ _ h => absurd h (Nat.not_lt_zero _), h.down, h.big, fun x hx j hj hf k hk _ => h.fw x hx j hj hf k hk (.inl (hN x hx.1)), h.sem⟩
def updU (U : Int → Int) (x m : Int) : Int → Int := fun y => if y = x then m else U y
theorem updU_same {x m : Int} : updU U x m x = m := if_pos rfl
theorem updU_ne {x m y : Int} (h : y ≠ x) : updU U x m y = U y := if_neg h
/-- Chains that the turned object does not stand in are as they were. -/
theorem anc_off {x m y c : Int} (h : ¬ Anc U x y) (hx : 0 ≤ x) : Anc (updU U x m) c y ↔ Anc U c y := by
  constructor
  · intro ha
    induction ha with
    | here h0 => exact .here h0
    | @up y h0 _ ih =>
      have hne : y ≠ x := by rintro rfl; exact h (.here hx)
      rw [updU_ne hne] at ih
      exact .up h0 (ih fun h2 => h (.up h0 h2))
  · intro ha
    induction ha with
    | here h0 => exact .here h0
    | @up y h0 _ ih =>
      have hne : y ≠ x := by rintro rfl; exact h (.here hx)
      refine .up h0 ?_
      rw [updU_ne hne]
      exact ih fun h2 => h (.up h0 h2)
theorem anc_on (hs : St D U) {x m y c : Int} (hx : D.P x) (hx0 : 0 ≤ x) (hm : ¬ Anc U x m) (hux : U x = -2 ∨ Rk D U x) (h : Anc U x y) : Anc (updU U x m) c y ↔ (Anc U c y ∧ Anc U x c) ∨ Anc U c m := by
  constructor
  · intro ha
    induction ha with
    | here h0 => exact .inl ⟨.here h0, h⟩
    | @up y h0 ha ih =>
      by_cases hne : y = x
      · subst hne
        rw [updU_same] at ha
        exact .inr ((anc_off hm hx0).1 ha)
      · rw [updU_ne hne] at ih
        have h2 : Anc U x (U y) := by
          rcases anc_cases h with h2 | h2
          · exact absurd h2.symm hne
          · exact h2
        rcases ih h2 with ⟨h3, h4⟩ | h3
        · exact .inl ⟨.up h0 h3, h4⟩
        · exact .inr h3
  · have left : ∀ {z : Int}, Anc U c z → Anc U x c → Anc (updU U x m) c z := by
      intro z hz hc
      induction hz with
      | here h0 => exact .here h0
      | @up y h0 ha ih =>
        have hne : y ≠ x := by
          rintro rfl
          rcases hux with h1 | h1
          · rw [h1] at ha; exact absurd ha (no_anc (by omega))
          · rcases hs _ h1 with h2 | ⟨h2, h3⟩
            · rw [h2] at ha; exact absurd ha (no_anc (by omega))
            · have h4 := anc_rk hs ha h2
              have h5 := anc_le hs ha h2
              have h6 := anc_le hs hc h4.1
              omega
        refine .up h0 ?_
        rw [updU_ne hne]
        exact ih
    have left' : ∀ {z : Int}, Anc U x z → Anc (updU U x m) x z := by
      intro z hz
      induction hz with
      | here h0 => exact .here h0
      | @up y h0 ha ih =>
        by_cases hne : y = x
        · subst hne; exact .here h0
        · refine .up h0 ?_
          rw [updU_ne hne]
          exact ih
    rintro (⟨h1, h2⟩ | h1)
    · exact left h1 h2
    · refine Anc.trans (.up hx0 ?_) (left' h)
      rw [updU_same]
      exact (anc_off hm hx0).2 h1
/-- What is asked of who keeps whom. -/
def DmOk (D : Dg) (Dm : Int → Int → Prop) : Prop := ∀ v x, D.P x → Dm v x → 0 ≤ v ∧ ∀ j ∈ D.pre x, j ≠ -1 ∧ (v = j ∨ Dm v j)
theorem Inv.cons {Dm : Int → Int → Prop} {p : Nat} (h : Inv D Dm U p) {x j : Int} (hx : D.R x ≤ p) (hf : j = -1 ∨ (D.P j ∧ D.R j < D.R x)) : Cons U j := by
  rintro ⟨h0, h1⟩
  rcases hf with rfl | ⟨h2, h3⟩
  · omega
  · exact h.low j h2 (by omega) h1
/-- A turn. -/
theorem Inv.turn {Dm : Int → Int → Prop} {p : Nat} (hD : D.Ok) (hDm : DmOk D Dm) (h : Inv D Dm U p) {x m : Int} (hx : D.P x) (hR : D.R x = p) (hm : Mt D U (D.pre x) m) :
    Inv D Dm (updU U x m) (p + 1) ∧ (m = -1 ∨ (D.P m ∧ D.R m < D.R x)) ∧ (U x ≠ -2 → m = U x ∨ (0 ≤ U x ∧ (m = -1 ∨ D.R m < D.R (U x)))) := by
  have hx0 := hD.pos x hx
  obtain ⟨j0, hj0, hf0⟩ := hD.fwd x hx
  have hc0 := h.cons (Nat.le_of_eq hR) hf0
  obtain ⟨_, hm1, hm2⟩ : (∃ j ∈ D.pre x, Cons U j) ∧ (m = -1 ∨ Rk D U m) ∧ ∀ c, Anc U c m ↔ ∀ j ∈ D.pre x, Cons U j → Anc U c j := by
    rcases hm with ⟨h1, _⟩ | h1
    · exact absurd hc0 (h1 j0 hj0)
    · exact h1
  have rkj : ∀ {z j : Int}, D.P j → D.R j < D.R z → D.R z ≤ p → Rk D U j := fun h1 h2 h3 => ⟨h1, h.low _ h1 (by omega)⟩
  have hmp : m = -1 ∨ (Rk D U m ∧ D.R m < p) := by
    rcases hm1 with h1 | h1
    · exact .inl h1
    · have h2 := (hm2 m).1 (.here (hD.pos m h1.1)) j0 hj0 hc0
      rcases hf0 with rfl | ⟨h3, h4⟩
      · exact absurd h2 (no_anc (by omega))
      · have := anc_le h.st h2 (rkj h3 h4 (Nat.le_of_eq hR))
        exact .inr ⟨h1, by omega⟩
  have hxm : ¬ Anc U x m := by
    intro ha
    rcases hmp with h1 | ⟨h1, h2⟩
    · rw [h1] at ha; exact no_anc (by omega) ha
    · have := anc_le h.st ha h1; omega
  have hmne : m ≠ -2 := by
    rcases hmp with h1 | ⟨h1, _⟩
    · omega
    · have := hD.pos m h1.1; omega
  have hux : U x = -2 ∨ Rk D U x := by
    by_cases h1 : U x = -2
    · exact .inl h1
    · exact .inr ⟨hx, h1⟩
  have off : ∀ {y c : Int}, ¬ Anc U x y → (Anc (updU U x m) c y ↔ Anc U c y) := fun h1 => anc_off h1 hx0
  have on : ∀ {y c : Int}, Anc U x y → (Anc (updU U x m) c y ↔ (Anc U c y ∧ Anc U x c) ∨ Anc U c m) := fun h1 => anc_on h.st hx hx0 hxm hux h1
  have lowoff : ∀ {y : Int}, Rk D U y → D.R y < p → ¬ Anc U x y := fun h1 h2 ha => by have := anc_le h.st ha h1; omega
  have mU : Rk D U x → ∀ c, Anc U c m → Anc U c (U x) := fun h1 c hc => h.big x c h1 ((hm2 c).1 hc)
  have rk' : ∀ z, Rk D (updU U x m) z → z = x ∨ Rk D U z := by
    intro z hz
    by_cases he : z = x
    · exact .inl he
    · exact .inr ⟨hz.1, by have := hz.2; rwa [updU_ne he] at this⟩
  have rk2 : ∀ z, Rk D U z → Rk D (updU U x m) z := by
    intro z hz
    refine ⟨hz.1, ?_⟩
    by_cases he : z = x
    · rw [he, updU_same]; exact hmne
    · rw [updU_ne he]; exact hz.2
  have keep : ∀ {j c : Int}, Anc (updU U x m) c j → (j = -1 ∨ D.P j) → Cons U j → Anc U c j := by
    intro j c ha hj hc
    by_cases hxj : Anc U x j
    · have hrj : Rk D U j := by
        rcases hj with rfl | hj
        · exact absurd hxj (no_anc (by omega))
        · exact ⟨hj, fun e => hc ⟨hD.pos j hj, e⟩⟩
      have hrx := (anc_rk h.st hxj hrj).1
      rcases (on hxj).1 ha with ⟨h1, _⟩ | h1
      · exact h1
      · exact (Anc.up hx0 (mU hrx c h1)).trans hxj
    · exact (off hxj).1 ha
  have cons' : ∀ {j : Int}, Cons U j → Cons (updU U x m) j := by
    rintro j hc ⟨h1, h2⟩
    by_cases he : j = x
    · rw [he, updU_same] at h2; exact hmne h2
    · rw [updU_ne he] at h2; exact hc ⟨h1, h2⟩
  refine ⟨⟨?_, ?_, ?_, ?_, ?_, ?_⟩, ?_, ?_⟩
  · -- st
    intro z hz
    rcases rk' z hz with rfl | hz
    · rw [updU_same]
      rcases hmp with h1 | ⟨h1, h2⟩
      · exact .inl h1
      · exact .inr ⟨rk2 m h1, by omega⟩
    · by_cases he : z = x
      · subst he
        rw [updU_same]
        rcases hmp with h1 | ⟨h1, h2⟩
        · exact .inl h1
        · exact .inr ⟨rk2 m h1, by omega⟩
      · rw [updU_ne he]
        rcases h.st z hz with h1 | ⟨h1, h2⟩
        · exact .inl h1
        · exact .inr ⟨rk2 _ h1, h2⟩
  · -- low
    intro y hy hlt
    by_cases he : y = x
    · rw [he, updU_same]; exact hmne
    · rw [updU_ne he]
      refine h.low y hy ?_
      rcases Nat.lt_or_ge (D.R y) p with h1 | h1
      · exact h1
      · exact absurd (hD.inj y x hy hx (by omega)) he
  · -- down
    intro z y hz hy hlt
    by_cases he : y = x
    · rw [he, updU_same]; exact hmne
    · rw [updU_ne he]
      rcases rk' z hz with rfl | hz
      · exact h.low y hy (by omega)
      · exact h.down z y hz hy hlt
  · -- big
    intro z c hz hall
    have hall' : ∀ j ∈ D.pre z, Cons U j → Anc U c j := fun j hj hc => keep (hall j hj (cons' hc)) (hD.prein z hz.1 j hj) hc
    by_cases he : z = x
    · subst he
      rw [updU_same]
      exact (off hxm).2 ((hm2 c).2 hall')
    · have hz : Rk D U z := by
        rcases rk' z hz with h1 | h1
        · exact absurd h1 he
        · exact h1
      rw [updU_ne he]
      have h1 := h.big z c hz hall'
      by_cases hxz : Anc U x (U z)
      · have hruz : Rk D U (U z) := by
          rcases h.st z hz with h2 | h2
          · rw [h2] at hxz; exact absurd hxz (no_anc (by omega))
          · exact h2.1
        obtain ⟨hrx, _⟩ := anc_rk h.st hxz hruz
        refine (on hxz).2 ?_
        rcases Nat.lt_or_ge (D.R c) (D.R x) with h2 | h2
        · refine .inr ?_
          obtain ⟨j1, hj1, hf1⟩ := hD.fwd z hz.1
          have h3 := h.fw z hz j1 hj1 hf1 x hxz (.inr (by omega))
          rcases hf1 with rfl | ⟨h4, h5⟩
          · exact absurd h3 (no_anc (by omega))
          · have hr1 : Rk D U j1 := ⟨h4, h.down z j1 hz h4 h5⟩
            have hc1 : Cons U j1 := fun hh => hr1.2 hh.2
            rcases (on h3).1 (hall j1 hj1 (cons' hc1)) with ⟨h6, h7⟩ | h6
            · have := anc_le h.st h7 (anc_rk h.st h6 hr1).1; omega
            · exact h6
        · exact .inl ⟨h1, anc_linear h.st h1 hxz hruz h2⟩
      · exact (off hxz).2 h1
  · -- fw
    intro z hz j hj hf k hk hor
    by_cases he : z = x
    · subst he
      rw [updU_same] at hk
      have h1 := (hm2 k).1 ((off hxm).1 hk) j hj (h.cons (Nat.le_of_eq hR) hf)
      rcases hf with rfl | ⟨h2, h3⟩
      · exact absurd h1 (no_anc (by omega))
      · exact (off (lowoff (rkj h2 h3 (Nat.le_of_eq hR)) (by omega))).2 h1
    · have hz : Rk D U z := by
        rcases rk' z hz with h1 | h1
        · exact absurd h1 he
        · exact h1
      rw [updU_ne he] at hk
      by_cases hzp : D.R z < p
      · have hoff : ¬ Anc U x (U z) := by
          intro ha
          rcases h.st z hz with h1 | ⟨h1, h2⟩
          · rw [h1] at ha; exact no_anc (by omega) ha
          · have := anc_le h.st ha h1; omega
        have h1 := h.fw z hz j hj hf k ((off hoff).1 hk) (.inl hzp)
        rcases hf with rfl | ⟨h2, h3⟩
        · exact absurd h1 (no_anc (by omega))
        · exact (off (lowoff (rkj h2 h3 (by omega)) (by omega))).2 h1
      · have hkp : p + 1 ≤ D.R k := by
          rcases hor with h1 | h1
          · exact absurd (hD.inj z x hz.1 hx (by omega)) he
          · exact h1
        have hk1 : Anc U k (U z) := by
          by_cases hxz : Anc U x (U z)
          · rcases (on hxz).1 hk with ⟨h1, _⟩ | h1
            · exact h1
            · rcases hmp with h2 | ⟨h2, h3⟩
              · rw [h2] at h1; exact absurd h1 (no_anc (by omega))
              · have := anc_le h.st h1 h2; omega
          · exact (off hxz).1 hk
        have h1 := h.fw z hz j hj hf k hk1 (.inr (by omega))
        rcases hf with rfl | ⟨h2, h3⟩
        · exact absurd h1 (no_anc (by omega))
        · by_cases hxj : Anc U x j
          · exact (on hxj).2 (.inl ⟨h1, anc_linear h.st h1 hxj ⟨h2, h.down z j hz h2 h3⟩ (by omega)⟩)
          · exact (off hxj).2 h1
  · -- sem
    have vm : ∀ (r : Nat) (z : Int), D.R z = r → Rk D U z → Anc U x z → ∀ v, Dm v z → D.R v < D.R x → Anc U v m := by
      intro r
      induction r using Nat.strongRecOn with
      | ind r ih =>
        intro z hzr hz hxz v hv hlt
        obtain ⟨hv0, hpre⟩ := hDm v z hz.1 hv
        by_cases he : z = x
        · subst he
          refine (hm2 v).2 fun j hj hc => ?_
          obtain ⟨h1, h2⟩ := hpre j hj
          have hrj : Rk D U j := by
            rcases hD.prein z hz.1 j hj with h3 | h3
            · exact absurd h3 h1
            · exact ⟨h3, fun e => hc ⟨hD.pos j h3, e⟩⟩
          rcases h2 with rfl | h2
          · exact .here hv0
          · exact .up (hD.pos j hrj.1) (h.sem j v hrj h2)
        · have hxu : Anc U x (U z) := by
            rcases anc_cases hxz with h1 | h1
            · exact absurd h1.symm he
            · exact h1
          obtain ⟨j1, hj1, hf1⟩ := hD.fwd z hz.1
          have h3 := h.fw z hz j1 hj1 hf1 x hxu (.inr (by omega))
          rcases hf1 with rfl | ⟨h4, h5⟩
          · exact absurd h3 (no_anc (by omega))
          · have hr1 : Rk D U j1 := ⟨h4, h.down z j1 hz h4 h5⟩
            rcases (hpre j1 hj1).2 with rfl | h6
            · have := anc_le h.st h3 hr1; omega
            · exact ih (D.R j1) (by omega) j1 rfl hr1 h3 v h6 hlt
    intro z v hz hv
    by_cases he : z = x
    · subst he
      rw [updU_same]
      refine (off hxm).2 ((hm2 v).2 fun j hj hc => ?_)
      obtain ⟨hv0, hpre⟩ := hDm v z hx hv
      obtain ⟨h1, h2⟩ := hpre j hj
      have hrj : Rk D U j := by
        rcases hD.prein z hx j hj with h3 | h3
        · exact absurd h3 h1
        · exact ⟨h3, fun e => hc ⟨hD.pos j h3, e⟩⟩
      rcases h2 with rfl | h2
      · exact .here hv0
      · exact .up (hD.pos j hrj.1) (h.sem j v hrj h2)
    · have hz : Rk D U z := by
        rcases rk' z hz with h1 | h1
        · exact absurd h1 he
        · exact h1
      rw [updU_ne he]
      have h1 := h.sem z v hz hv
      by_cases hxz : Anc U x (U z)
      · have hruz : Rk D U (U z) := by
          rcases h.st z hz with h2 | h2
          · rw [h2] at hxz; exact absurd hxz (no_anc (by omega))
          · exact h2.1
        refine (on hxz).2 ?_
        rcases Nat.lt_or_ge (D.R v) (D.R x) with h2 | h2
        · exact .inr (vm _ z rfl hz (.up (hD.pos z hz.1) hxz) v hv h2)
        · exact .inl ⟨h1, anc_linear h.st h1 hxz hruz h2⟩
      · exact (off hxz).2 h1
  · rcases hmp with h1 | ⟨h1, h2⟩
    · exact .inl h1
    · exact .inr ⟨h1.1, by omega⟩
  · intro hne
    have hrx : Rk D U x := ⟨hx, hne⟩
    rcases hmp with h1 | ⟨h1, h2⟩
    · rcases h.st x hrx with h3 | ⟨h3, _⟩
      · exact .inl (by omega)
      · exact .inr ⟨hD.pos _ h3.1, .inl h1⟩
    · have h3 := mU hrx m (.here (hD.pos m h1.1))
      rcases h.st x hrx with h4 | ⟨h4, _⟩
      · rw [h4] at h3; exact absurd h3 (no_anc (by omega))
      · rcases (anc_rk h.st h3 h4).2 with h5 | h5
        · exact .inl h5
        · exact .inr ⟨hD.pos _ h4.1, .inr h5⟩
end
end Go.Proofs.Ytnpbdabboecpaaa.Dom
