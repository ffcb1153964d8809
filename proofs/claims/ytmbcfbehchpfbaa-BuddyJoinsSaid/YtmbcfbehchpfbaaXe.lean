/- Buddies: the yard as owned things; a new yard, walked. -/
import Derived.Test.YtmbcfbehchpfbaaXd
import Derived.Test.YtmbcfbehchpfbaaUk
import Derived.Test.YtmbcfbehchpfbaaMi
namespace Go.Proofs.Ytmbcfbehchpfbaa
open Go.RowKit Go.Maps

/-- How many a map has: none, just when nothing lies at any key. -/
theorem gmap_len {B : Nat} {w : World} {b n : Nat} {f : Int → Option Value} (h : (gmap mapII b n f).ok B w) (ty : TypeId) : ∃ c : Nat, (c = 0 ↔ ∀ x, i64ok x → f x = none) ∧ (Builtin.len_ #[71] ty #[.map (some b)]).run Try.prog w = .ok (.int .i64 c) w := by
  obtain ⟨_, _, D, h1, _, h3⟩ := gmap_own h
  refine ⟨Maps.size D, ?_, h1.len mapII.under ty⟩
  obtain ⟨es, clock, hb, F, _, rfl⟩ := h1
  rw [Maps.size_eq, length_sorted, List.length_map, Array.length_toList]
  constructor
  · intro h0 x hx
    have h4 := h3 x hx .nil
    have he : es.toList = [] := by rw [← List.length_eq_zero_iff, Array.length_toList]; exact h0
    rw [he] at h4
    cases hf : f x with
    | none => rfl
    | some v => rw [hf] at h4; cases h4
  · intro hn
    cases hes : es.toList with
    | nil => rw [← Array.length_toList, hes]; rfl
    | cons e0 l =>
      exfalso
      have hm : e0 ∈ es.toList := by rw [hes]; exact List.mem_cons_self
      obtain ⟨y, hy⟩ := F.reads e0 hm
      have hk := WideElems.rd_key hy
      obtain ⟨x, hx, hkey, hlit⟩ := mapII_inv _ _ hk
      rcases Maps.fit_look false mapII.keyed mapII.under (mapII.zeroOk w) hb F (mapII.key x hx) with ⟨_, hno, _⟩ | ⟨e1, y1, _, _, _, hR, hat, _⟩
      · exact hno e0 hm hkey
      · have h4 := h3 x hx .nil
        rw [hat .nil, hn x hx] at h4
        unfold rawE at hR
        cases hR
        cases h4
/-! ### the yard -/
def frE (bs : Nat → Nat) (c : Nat → Nat) (fr : Fr) (k : Nat) : Ent := gmap mapII (bs k) (c k) (frV (fr k))
def yardC (lev bt : Nat) (bs : Nat → Nat) : Array Value := #[.int .i64 (lev : Int), .map (some (bs 0)), .map (some (bs 1)), .map (some (bs 2)), .map (some (bs 3)), .map (some (bs 4)), .map (some (bs 5)), .map (some (bs 6)), .map (some (bs 7)), .map (some bt)]
def ownY (By bt lev : Nat) (bs : Nat → Nat) (c : Nat → Nat) (s : BSt) : List Ent :=
  [ebox By (yardC lev bt bs) 104, gmap mapII bt (c 8) (tkV s.tk), frE bs c s.fr 0, frE bs c s.fr 1, frE bs c s.fr 2, frE bs c s.fr 3, frE bs c s.fr 4, frE bs c s.fr 5, frE bs c s.fr 6, frE bs c s.fr 7]
theorem lt8 {k : Nat} (h : k < 8) : k = 0 ∨ k = 1 ∨ k = 2 ∨ k = 3 ∨ k = 4 ∨ k = 5 ∨ k = 6 ∨ k = 7 := by omega
theorem ownY_at (By bt lev : Nat) (bs c : Nat → Nat) (s : BSt) (L' : List Ent) {k : Nat} (hk : k < 8) : (ownY By bt lev bs c s ++ L')[2 + k]? = some (gmap mapII (bs k) (c k) (frV (s.fr k))) := by
  rcases lt8 hk with rfl | rfl | rfl | rfl | rfl | rfl | rfl | rfl <;> rfl
theorem yardC_at (lev bt : Nat) (bs : Nat → Nat) {k : Nat} (hk : k < 8) : (yardC lev bt bs)[1 + k]? = some (.map (some (bs k))) := by
  rcases lt8 hk with rfl | rfl | rfl | rfl | rfl | rfl | rfl | rfl <;> rfl
def bump (c : Nat → Nat) (k n : Nat) : Nat → Nat := fun j => if j = k then n else c j
theorem ownY_set (By bt lev : Nat) (bs c : Nat → Nat) (s : BSt) (L' : List Ent) {k : Nat} (hk : k < 8) (n : Nat) (g : Nat → Bool) :
    (ownY By bt lev bs c s ++ L').set (2 + k) (gmap mapII (bs k) n (frV g)) = ownY By bt lev bs (bump c k n) ⟨fun j => if j = k then g else s.fr j, s.tk⟩ ++ L' := by
  rcases lt8 hk with rfl | rfl | rfl | rfl | rfl | rfl | rfl | rfl <;> rfl
theorem frV_put (f : Nat → Bool) (p : Nat) : (fun u : Int => if u = (p : Int) then some (Value.int .i64 1) else frV f u) = frV (fun x => if x = p then true else f x) := by
  funext u
  unfold frV
  by_cases h : u = (p : Int)
  · subst h; simp
  · rw [if_neg h]
    by_cases h0 : 0 ≤ u
    · have : ¬ u.toNat = p := by omega
      simp [this]
    · simp [h0]
theorem frV_del (f : Nat → Bool) (p : Nat) : (fun u : Int => if u = (p : Int) then none else frV f u) = frV (fun x => if x = p then false else f x) := by
  funext u
  unfold frV
  by_cases h : u = (p : Int)
  · subst h; simp
  · rw [if_neg h]
    by_cases h0 : 0 ≤ u
    · have : ¬ u.toNat = p := by omega
      simp [this]
    · simp [h0]
theorem setB_is (fr : Fr) (k p : Nat) (b : Bool) : (fun j => if j = k then (fun x => if x = p then b else fr k x) else fr j) = setB fr k p b := by
  funext j x
  unfold setB
  by_cases h : j = k
  · subst h
    by_cases h2 : x = p <;> simp [h2]
  · simp [h]
theorem own_put (By bt lev : Nat) (bs c : Nat → Nat) (s : BSt) (L' : List Ent) {k : Nat} (hk : k < 8) (n p : Nat) :
    (ownY By bt lev bs c s ++ L').set (2 + k) (gmap mapII (bs k) n (fun u => if u = (p : Int) then some (.int .i64 1) else frV (s.fr k) u)) = ownY By bt lev bs (bump c k n) ⟨setB s.fr k p true, s.tk⟩ ++ L' := by
  rw [frV_put, ownY_set By bt lev bs c s L' hk, setB_is]
theorem own_del (By bt lev : Nat) (bs c : Nat → Nat) (s : BSt) (L' : List Ent) {k : Nat} (hk : k < 8) (n p : Nat) :
    (ownY By bt lev bs c s ++ L').set (2 + k) (gmap mapII (bs k) n (fun u => if u = (p : Int) then none else frV (s.fr k) u)) = ownY By bt lev bs (bump c k n) ⟨setB s.fr k p false, s.tk⟩ ++ L' := by
  rw [frV_del, ownY_set By bt lev bs c s L' hk, setB_is]
theorem tkV_put (tk : Int → Option Nat) (x : Int) (n : Nat) : (fun u : Int => if u = x then some (Value.int .i64 (n : Int)) else tkV tk u) = tkV (fun y => if y = x then some n else tk y) := by
  funext u
  unfold tkV
  by_cases h : u = x <;> simp [h]
theorem tkV_del (tk : Int → Option Nat) (x : Int) : (fun u : Int => if u = x then none else tkV tk u) = tkV (fun y => if y = x then none else tk y) := by
  funext u
  unfold tkV
  by_cases h : u = x <;> simp [h]
theorem own_tput (By bt lev : Nat) (bs c : Nat → Nat) (s : BSt) (L' : List Ent) (n : Nat) (x : Int) (m : Nat) :
    (ownY By bt lev bs c s ++ L').set 1 (gmap mapII bt n (fun u => if u = x then some (.int .i64 (m : Int)) else tkV s.tk u)) = ownY By bt lev bs (bump c 8 n) ⟨s.fr, fun y => if y = x then some m else s.tk y⟩ ++ L' := by
  rw [tkV_put]; rfl
theorem own_tdel (By bt lev : Nat) (bs c : Nat → Nat) (s : BSt) (L' : List Ent) (n : Nat) (x : Int) :
    (ownY By bt lev bs c s ++ L').set 1 (gmap mapII bt n (fun u => if u = x then none else tkV s.tk u)) = ownY By bt lev bs (bump c 8 n) ⟨s.fr, fun y => if y = x then none else s.tk y⟩ ++ L' := by
  rw [tkV_del]; rfl
theorem bump_le {c : Nat → Nat} {C k n : Nat} (h : ∀ j, c j ≤ C) (hn : n ≤ C + 1) : ∀ j, bump c k n j ≤ C + 1 := by
  intro j
  unfold bump
  have := h j
  split <;> omega
/-- A yard under way: only the first maps are made. -/
def rawC (lev bt : Nat) (l : List Nat) : Array Value := (Value.int .i64 (lev : Int) :: (l.map (fun b => Value.map (some b)) ++ (List.replicate (8 - l.length) (Value.map none) ++ [.map (some bt)]))).toArray
theorem rawC_put (lev bt : Nat) (l : List Nat) (hl : l.length < 8) (b : Nat) : (rawC lev bt l).setIfInBounds (1 + l.length) (.map (some b)) = rawC lev bt (l ++ [b]) := by
  unfold rawC
  rw [List.setIfInBounds_toArray]
  congr 1
  rw [Nat.add_comm 1, List.set_cons_succ, List.set_append_right _ _ (by simp)]
  simp only [List.length_map, Nat.sub_self, List.map_append, List.map_cons, List.map_nil, List.append_assoc, List.length_append, List.length_cons, List.length_nil]
  congr 2
  rw [show 8 - l.length = (8 - (l.length + (0 + 1))) + 1 by omega, List.replicate_succ]
  rfl
theorem rawC_len (lev bt : Nat) (l : List Nat) (hl : l.length ≤ 8) : (rawC lev bt l).size = 10 := by
  unfold rawC
  simp
  omega
def ownR (By bt lev : Nat) (l : List Nat) : List Ent := l.reverse.map (fun b => gmap mapII b 0 (fun _ => none)) ++ [ebox By (rawC lev bt l) 104, gmap mapII bt 0 (fun _ => none)]
theorem frV_no (f : Nat → Bool) (h : ∀ x, f x = false) : frV f = fun _ => none := by
  funext u; unfold frV; simp [h]
end Go.Proofs.Ytmbcfbehchpfbaa
