/- Marking with a stack that may be too small. Plain. -/
import Derived.Test.YtgdodbdipbomfaaBn
namespace Go.Proofs.Ytgdodbdipbomfaa
open Go.RowKit

theorem head_or (l a : Int) (b : Bool) (h0 : 0 ≤ l) (h1 : l ≤ 4) (h2 : 0 ≤ a) (h3 : a ≤ 7) :
    bits BinOp.or IntKind.u64 (headW l a b) 256 = headW l a true ∧ bits BinOp.andNot IntKind.u64 (headW l a b) 256 = headW l a false ∧ (bits BinOp.and IntKind.u64 (headW l a b) 256 != 0) = b := by
  have ha : a = 0 ∨ a = 1 ∨ a = 2 ∨ a = 3 ∨ a = 4 ∨ a = 5 ∨ a = 6 ∨ a = 7 := by omega
  have hl : l = 0 ∨ l = 1 ∨ l = 2 ∨ l = 3 ∨ l = 4 := by omega
  rcases b with _ | _ <;> rcases ha with rfl | rfl | rfl | rfl | rfl | rfl | rfl | rfl <;> rcases hl with rfl | rfl | rfl | rfl | rfl <;> exact ⟨by decide +kernel, by decide +kernel, by decide +kernel⟩
/-- A header with its mark set so. -/
def hdS (n : Int) (b : Bool) : Int := headW (n % 256) (n / 512 % 8) b
theorem hdS_self {n : Int} (h : isHead n) : hdS n (n / 256 % 2 == 1) = n := h.2
theorem hdS_parts {n : Int} (h : isHead n) (b : Bool) : hdS n b % 256 = n % 256 ∧ (hdS n b / 256 % 2 == 1) = b ∧ hdS n b / 512 % 8 = n / 512 % 8 ∧ isHead (hdS n b) ∧ w64 (hdS n b) := by
  have h1 := h.1
  obtain ⟨l, hl⟩ : ∃ l, n % 256 = l := ⟨_, rfl⟩
  obtain ⟨a, ha⟩ : ∃ a, n / 512 % 8 = a := ⟨_, rfl⟩
  have hl0 : 0 ≤ l := by omega
  have ha0 : 0 ≤ a ∧ a ≤ 7 := by omega
  unfold hdS
  rw [hl, ha]
  rw [hl] at h1
  cases b
  · have e : headW l a false % 256 = l := by unfold headW; simp; omega
    refine ⟨e, ?_, by unfold headW; simp; omega, (isHead_iff _).2 ⟨by omega, by unfold headW; simp; omega⟩, by unfold w64 headW; simp; omega⟩
    have : headW l a false / 256 % 2 = 0 := by unfold headW; simp; omega
    rw [this]; rfl
  · have e : headW l a true % 256 = l := by unfold headW; simp; omega
    refine ⟨e, ?_, by unfold headW; simp; omega, (isHead_iff _).2 ⟨by omega, by unfold headW; simp; omega⟩, by unfold w64 headW; simp; omega⟩
    have : headW l a true / 256 % 2 = 1 := by unfold headW; simp; omega
    rw [this]; rfl
theorem hdS_twice {n : Int} (h : isHead n) (b c : Bool) : hdS (hdS n b) c = hdS n c := by
  obtain ⟨h1, _, h3, _⟩ := hdS_parts h b
  show headW (hdS n b % 256) (hdS n b / 512 % 8) c = _
  rw [h1, h3]; rfl
theorem hdS_bits {n : Int} (h : isHead n) : bits BinOp.or IntKind.u64 n 256 = hdS n true ∧ bits BinOp.andNot IntKind.u64 n 256 = hdS n false ∧ (bits BinOp.and IntKind.u64 n 256 != 0) = (n / 256 % 2 == 1) := by
  have h1 := h.1
  have := head_or (n % 256) (n / 512 % 8) (n / 256 % 2 == 1) (by omega) h1 (by omega) (by omega)
  rw [h.2] at this
  exact this

theorem obj_at' {os : List Ob} {k : Nat} {o : Ob} (h : os[k]? = some o) : obj os (k : Int) = o := by
  have hk := (List.getElem?_eq_some_iff.1 h).1
  have h1 := obj_get (os := os) (i := (k : Int)) ⟨by omega, by omega⟩
  rw [Int.toNat_natCast, h] at h1
  exact (Option.some.inj h1).symm
theorem upTo_get {n k : Nat} (h : k < n) : (upTo n)[k]? = some (k : Int) := by simp [upTo, h]
theorem place_upTo {os : List Ob} : ∀ {k : Nat}, k ≤ os.length → placeF os (upTo os.length) k = place os k
  | 0, _ => rfl
  | k + 1, h => by
    obtain ⟨o, ho⟩ := get_some os k (by omega)
    rw [placeF_succ os (upTo_get (by omega)), place_upTo (show k ≤ os.length by omega), place_succ ho]
    unfold szO
    rw [obj_at' ho]; omega
/-- The objects with other headers. -/
def allO (os : List Ob) (hd : Int → Int) : List Ob := rawO os hd (upTo os.length)
theorem allO_get (os : List Ob) (hd : Int → Int) {k : Nat} (h : k < os.length) : (allO os hd)[k]? = some (hd k, (obj os k).2) := by
  unfold allO rawO
  rw [List.getElem?_map, upTo_get h]; rfl
theorem allO_len (os : List Ob) (hd : Int → Int) : (allO os hd).length = os.length := by unfold allO rawO; rw [List.length_map, upTo_len]
theorem allO_place (os : List Ob) (hd : Int → Int) {k : Nat} (h : k ≤ os.length) : place (allO os hd) k = place os k := by
  unfold allO; rw [raw_place, place_upTo h]
theorem allO_flat (os : List Ob) (hd : Int → Int) : (flat (allO os hd)).length = (flat os).length := by
  rw [← place_all, ← place_all, allO_len, allO_place os hd (Nat.le_refl _)]
theorem allO_starts (os : List Ob) (hd : Int → Int) : starts (allO os hd) = starts os := by
  unfold starts
  rw [allO_len]
  refine List.map_congr_left fun k hk => ?_
  rw [allO_place os hd (Nat.le_of_lt (List.mem_range.1 hk))]
theorem allO_ext (os : List Ob) {hd he : Int → Int} (h : ∀ k : Nat, k < os.length → hd k = he k) : allO os hd = allO os he := by
  unfold allO rawO
  refine List.map_congr_left fun i hi => ?_
  have := mem_upTo.1 hi
  obtain ⟨k, rfl⟩ : ∃ k : Nat, i = k := ⟨i.toNat, by omega⟩
  rw [h k (by omega)]
theorem allO_self {os : List Ob} : allO os (fun i => (obj os i).1) = os := by
  refine List.ext_getElem? fun k => ?_
  by_cases hk : k < os.length
  · obtain ⟨o, ho⟩ := get_some os k hk
    rw [allO_get os _ hk, ho, obj_at' ho]
  · rw [List.getElem?_eq_none (by rw [allO_len]; omega), List.getElem?_eq_none (by omega)]
theorem allO_obj (os : List Ob) (hd : Int → Int) {i : Int} (h : 0 ≤ i ∧ i < (os.length : Int)) : obj (allO os hd) i = (hd i, (obj os i).2) := by
  obtain ⟨k, rfl⟩ : ∃ k : Nat, i = k := ⟨i.toNat, by omega⟩
  exact obj_at' (allO_get os hd (by omega))
theorem allO_twice (os : List Ob) (hd he : Int → Int) : allO (allO os hd) he = allO os he := by
  refine List.ext_getElem? fun k => ?_
  by_cases hk : k < os.length
  · rw [allO_get _ he (by rw [allO_len]; exact hk), allO_get os he hk, allO_obj os hd ⟨by omega, by omega⟩]
  · rw [List.getElem?_eq_none (by rw [allO_len, allO_len]; omega), List.getElem?_eq_none (by rw [allO_len]; omega)]
theorem allO_fields (os : List Ob) (hd : Int → Int) : (allO os hd).map (·.2) = os.map (·.2) := by
  refine List.ext_getElem? fun k => ?_
  rw [List.getElem?_map, List.getElem?_map]
  by_cases hk : k < os.length
  · obtain ⟨o, ho⟩ := get_some os k hk
    rw [allO_get os hd hk, ho, obj_at' ho]; rfl
  · rw [List.getElem?_eq_none (by rw [allO_len]; omega), List.getElem?_eq_none (by omega)]
theorem allO_valG (os : List Ob) (hd : Int → Int) : valG (allO os hd) = valG os := by
  funext x
  unfold valG idx
  rw [allO_starts]
theorem allO_read (os : List Ob) (hd : Int → Int) (rs : List Int) : readG (allO os hd) rs = readG os rs := by
  unfold readG
  rw [allO_valG]
  congr 1
  have h := congrArg (List.map (List.map (valG os))) (allO_fields os hd)
  rw [List.map_map, List.map_map] at h
  exact h
theorem allO_sound {ws rs : List Int} {os : List Ob} (h : Sound ws rs os) {hd : Int → Int} (hh : ∀ k : Nat, k < os.length → isHead (hd k) ∧ hd k % 256 = (obj os k).1 % 256) : Sound (flat (allO os hd)) rs (allO os hd) := by
  have h1 := h.words
  rw [h.laid.1] at h1
  refine ⟨by rw [allO_flat]; exact h1, h.roots, ⟨rfl, ?_⟩, ?_⟩
  · intro o ho
    obtain ⟨k, hk⟩ := List.getElem?_of_mem ho
    have hkl := (List.getElem?_eq_some_iff.1 hk).1
    rw [allO_len] at hkl
    rw [allO_get os hd hkl] at hk
    obtain rfl := Option.some.inj hk
    have hg := h.laid.good (obj_get (os := os) (i := k) ⟨by omega, by omega⟩)
    obtain ⟨g1, g2⟩ := hh k hkl
    exact ⟨g1, by show ((obj os k).2.length : Int) = hd k % 256; rw [g2]; exact hg.2.1⟩
  · intro x hx
    have hx2 : x ∈ allW rs os := by
      rcases List.mem_append.1 hx with h' | h'
      · exact List.mem_append_left _ h'
      · refine List.mem_append_right _ ?_
        obtain ⟨o, ho, hxo⟩ := List.mem_flatMap.1 h'
        have : o.2 ∈ (allO os hd).map (·.2) := List.mem_map.2 ⟨o, ho, rfl⟩
        rw [allO_fields] at this
        obtain ⟨o', ho', e⟩ := List.mem_map.1 this
        exact List.mem_flatMap.2 ⟨o', ho', by rw [e]; exact hxo⟩
    have := h.refs x hx2
    unfold RefOk at this ⊢
    rw [allO_starts]; exact this
theorem allO_64 {os : List Ob} {hd : Int → Int} (hw : ∀ x ∈ flat os, w64 x) (hh : ∀ k : Nat, k < os.length → w64 (hd k)) : ∀ x ∈ flat (allO os hd), w64 x := by
  intro x hx
  obtain ⟨o, ho, hxo⟩ := List.mem_flatMap.1 hx
  obtain ⟨k, hk⟩ := List.getElem?_of_mem ho
  have hkl := (List.getElem?_eq_some_iff.1 hk).1
  rw [allO_len] at hkl
  rw [allO_get os hd hkl] at hk
  obtain rfl := Option.some.inj hk
  rcases List.mem_cons.1 hxo with rfl | hxo
  · exact hh k hkl
  · exact hw x (List.mem_flatMap.2 ⟨obj os k, List.mem_of_getElem? (obj_get (os := os) (i := k) ⟨by omega, by omega⟩), List.mem_cons_of_mem _ hxo⟩)
theorem flat_set : ∀ (os : List Ob) (k : Nat) (o : Ob) (n : Int), os[k]? = some o → (flat os).set (place os k) n = flat (os.set k (n, o.2))
  | [], _, _, _, h => by simp at h
  | o1 :: os, 0, o, n, h => by
    simp only [List.getElem?_cons_zero, Option.some.injEq] at h
    subst h
    rfl
  | o1 :: os, k + 1, o, n, h => by
    simp only [List.getElem?_cons_succ] at h
    have hp : place (o1 :: os) (k + 1) = 1 + o1.2.length + place os k := by
      unfold place
      rw [List.take_succ_cons, flat_cons, List.length_cons, List.length_append]; omega
    rw [hp, List.set_cons_succ, flat_cons, flat_cons, ← flat_set os k o n h, show 1 + o1.2.length + place os k = (o1.2.length + place os k) + 1 by omega, List.set_cons_succ, List.set_append_right _ _ (by omega), show o1.2.length + place os k - o1.2.length = place os k by omega]
/-- One header turned. -/
theorem allO_set (os : List Ob) (hd : Int → Int) {k : Nat} (h : k < os.length) (n : Int) : (flat (allO os hd)).set (place os k) n = flat (allO os fun i => if i = k then n else hd i) := by
  have h1 := allO_get os hd h
  rw [← allO_place os hd (Nat.le_of_lt h), flat_set _ _ _ _ h1]
  congr 1
  refine List.ext_getElem? fun j => ?_
  rw [List.getElem?_set]
  by_cases hj : j < os.length
  · rw [allO_get os _ hj, allO_get os _ hj]
    by_cases e : k = j
    · subst e; simp [allO_len, h]
    · rw [if_neg e, if_neg (by omega)]
  · rw [if_neg (by omega), List.getElem?_eq_none (by rw [allO_len]; omega), List.getElem?_eq_none (by rw [allO_len]; omega)]

/-- Those of M marked, no other. -/
def hdM (os : List Ob) (M : List Int) (i : Int) : Int := hdS (obj os i).1 (decide (i ∈ M))
def mkO (os : List Ob) (M : List Int) : List Ob := allO os (hdM os M)
theorem mkO_same (os : List Ob) {M N : List Int} (h : ∀ k : Nat, k < os.length → ((k : Int) ∈ M ↔ (k : Int) ∈ N)) : mkO os M = mkO os N :=
  allO_ext os fun k hk => by unfold hdM; rw [decide_eq_decide.2 (h k hk)]
theorem mkO_mark (os : List Ob) (M : List Int) {k : Nat} (h : k < os.length) : (flat (mkO os M)).set (place os k) (hdS (obj os k).1 true) = flat (mkO os (M ++ [(k : Int)])) := by
  unfold mkO
  rw [allO_set os _ h]
  congr 1
  refine allO_ext os fun j hj => ?_
  unfold hdM
  by_cases e : j = k
  · subst e; simp
  · rw [if_neg (by omega)]
    congr 1
    exact decide_eq_decide.2 (by simp [show ¬ (j : Int) = k by omega])
theorem hd_good {ws : List Int} {os : List Ob} (hL : Laid ws os) {k : Nat} (hk : k < os.length) : isHead (obj os k).1 ∧ ((obj os k).2.length : Int) = (obj os k).1 % 256 ∧ (obj os k).2.length ≤ 4 := hL.good (obj_get (os := os) (i := k) ⟨by omega, by omega⟩)
theorem mkO_sound {ws rs : List Int} {os : List Ob} (h : Sound ws rs os) (M : List Int) : Sound (flat (mkO os M)) rs (mkO os M) :=
  allO_sound h fun k hk => by
    obtain ⟨h1, h2, h3, h4, h5⟩ := hdS_parts (hd_good h.laid hk).1 (decide ((k : Int) ∈ M))
    exact ⟨h4, h1⟩
theorem mkO_64 {ws : List Int} {os : List Ob} (hL : Laid ws os) (hw : ∀ x ∈ flat os, w64 x) (M : List Int) : ∀ x ∈ flat (mkO os M), w64 x :=
  allO_64 hw fun _ hk => (hdS_parts (hd_good hL hk).1 _).2.2.2.2
theorem mkO_twice {ws : List Int} {os : List Ob} (hL : Laid ws os) (M N : List Int) : mkO (mkO os M) N = mkO os N := by
  unfold mkO
  rw [allO_twice]
  refine allO_ext os fun k hk => ?_
  show hdS (obj (allO os (hdM os M)) k).1 _ = _
  rw [allO_obj os _ ⟨by omega, by omega⟩]
  exact hdS_twice (hd_good hL hk).1 _ _

/-- What is marked, what waits, whether something had no room. -/
structure KS where
  M : List Int
  S : List Int
  lost : Bool
def vis (r : Nat) (i : Int) (s : KS) : KS := if i ∈ s.M then s else if s.S.length = r then ⟨s.M ++ [i], s.S, true⟩ else ⟨s.M ++ [i], s.S ++ [i], s.lost⟩
def visW (os : List Ob) (r : Nat) (x : Int) (s : KS) : KS := if x % 2 = 1 then s else vis r (idx os (x / 2)) s
def visL (os : List Ob) (r : Nat) (l : List Int) (s : KS) : KS := l.foldl (fun s x => visW os r x s) s
theorem visL_succ (os : List Ob) (r : Nat) {l : List Int} {k : Nat} {x : Int} (h : l[k]? = some x) (s : KS) : visL os r (l.take (k + 1)) s = visW os r x (visL os r (l.take k) s) := by
  unfold visL
  rw [take_succ_some _ _ _ h, List.foldl_append]; rfl

structure KInv (F : List Int) (r : Nat) (s : KS) : Prop where
  nodup : s.M.Nodup
  sub : ∀ x ∈ s.M, x ∈ F
  wait : ∀ x ∈ s.S, x ∈ s.M
  room : s.S.length ≤ r
/-- All is gone through but what waits, and but P. -/
def Cl (g : G) (P : Int → Prop) (s : KS) : Prop := s.lost = false → ∀ y ∈ s.M, y ∈ s.S ∨ (∀ j ∈ targets (fieldsAt g y), j ∈ s.M) ∨ P y
def mu (F : List Int) (s : KS) : Nat := 2 * (F.length - s.M.length) + s.S.length
structure Goes (g : G) (F : List Int) (r : Nat) (s s' : KS) : Prop where
  inv : KInv F r s'
  pre : s.M <+: s'.M
  lost1 : s.lost = true → s'.lost = true
  lost2 : s'.lost = true → s.lost = true ∨ s.M.length < s'.M.length
  cl : ∀ P, Cl g P s → Cl g P s'
  meas : mu F s' ≤ mu F s
theorem Goes.refl {g : G} {F : List Int} {r : Nat} {s : KS} (h : KInv F r s) : Goes g F r s s := ⟨h, List.prefix_refl _, id, .inl, fun _ => id, Nat.le_refl _⟩
theorem Goes.trans {g : G} {F : List Int} {r : Nat} {s t u : KS} (h : Goes g F r s t) (k : Goes g F r t u) : Goes g F r s u := by
  have h1 := h.pre.length_le
  have h2 := k.pre.length_le
  refine ⟨k.inv, h.pre.trans k.pre, fun e => k.lost1 (h.lost1 e), fun e => ?_, fun P e => k.cl P (h.cl P e), Nat.le_trans k.meas h.meas⟩
  rcases k.lost2 e with e | e
  · rcases h.lost2 e with e | e
    · exact .inl e
    · exact .inr (by omega)
  · exact .inr (by omega)
theorem KInv.len {F : List Int} {r : Nat} {s : KS} (h : KInv F r s) : s.M.length ≤ F.length := nodup_sub_len _ _ h.nodup h.sub
theorem goes_mark {g : G} {F : List Int} {r : Nat} {s : KS} (h : KInv F r s) {i : Int} (hi : i ∈ F) (hn : i ∉ s.M) (S' : List Int) (lost' : Bool)
    (hc : s.S.length = r ∧ S' = s.S ∧ lost' = true ∨ s.S.length < r ∧ S' = s.S ++ [i] ∧ lost' = s.lost) : Goes g F r s ⟨s.M ++ [i], S', lost'⟩ := by
  have hI : KInv F r ⟨s.M ++ [i], S', lost'⟩ := by
    refine ⟨?_, ?_, ?_, ?_⟩
    · show (s.M ++ [i]).Nodup
      rw [List.nodup_append]
      exact ⟨h.nodup, by simp, fun x hx y hy e => hn (by simp at hy; subst hy; subst e; exact hx)⟩
    · intro x hx
      rcases List.mem_append.1 hx with hx | hx
      · exact h.sub x hx
      · simp at hx; subst hx; exact hi
    · rcases hc with ⟨_, rfl, _⟩ | ⟨_, rfl, _⟩
      · exact fun x hx => List.mem_append_left _ (h.wait x hx)
      · intro x hx
        rcases List.mem_append.1 hx with hx | hx
        · exact List.mem_append_left _ (h.wait x hx)
        · exact List.mem_append_right _ hx
    · have := h.room
      rcases hc with ⟨_, rfl, _⟩ | ⟨_, rfl, _⟩
      · exact this
      · simp only [List.length_append, List.length_cons, List.length_nil]; omega
  have hl := hI.len
  simp only [List.length_append, List.length_cons, List.length_nil] at hl
  refine ⟨hI, List.prefix_append _ _, ?_, ?_, ?_, ?_⟩
  · rcases hc with ⟨_, _, rfl⟩ | ⟨_, _, rfl⟩
    · exact fun _ => rfl
    · exact id
  · intro _; right; simp
  · intro P hP hl2 y hy
    rcases hc with ⟨_, _, rfl⟩ | ⟨_, rfl, rfl⟩
    · cases hl2
    · rcases List.mem_append.1 hy with hy | hy
      · rcases hP hl2 y hy with h1 | h1 | h1
        · exact .inl (List.mem_append_left _ h1)
        · exact .inr (.inl fun j hj => List.mem_append_left _ (h1 j hj))
        · exact .inr (.inr h1)
      · exact .inl (List.mem_append_right _ hy)
  · unfold mu
    rcases hc with ⟨_, rfl, _⟩ | ⟨_, rfl, _⟩ <;> simp only [List.length_append, List.length_cons, List.length_nil] <;> omega
theorem vis_goes (g : G) {F : List Int} {r : Nat} {s : KS} (h : KInv F r s) {i : Int} (hi : i ∈ F) : Goes g F r s (vis r i s) ∧ i ∈ (vis r i s).M := by
  have := h.room
  unfold vis
  split
  · rename_i hin; exact ⟨Goes.refl h, hin⟩
  · rename_i hin
    split
    · rename_i hr
      exact ⟨goes_mark h hi hin _ _ (.inl ⟨hr, rfl, rfl⟩), by simp⟩
    · rename_i hr
      exact ⟨goes_mark h hi hin _ _ (.inr ⟨by omega, rfl, rfl⟩), by simp⟩
theorem visW_goes (g : G) (os : List Ob) {F : List Int} {r : Nat} {s : KS} (h : KInv F r s) {x : Int} (hi : x % 2 = 1 ∨ (idx os (x / 2) : Int) ∈ F) : Goes g F r s (visW os r x s) ∧ ∀ j ∈ targets [valG os x], j ∈ (visW os r x s).M := by
  unfold visW
  split
  · rename_i hx
    refine ⟨Goes.refl h, ?_⟩
    simp [targets, valG, hx]
  · rename_i hx
    obtain ⟨h1, h2⟩ := vis_goes g h (hi.resolve_left hx)
    refine ⟨h1, ?_⟩
    simp only [targets, valG, hx]
    simpa using h2
theorem targets_append (l m : List V) : targets (l ++ m) = targets l ++ targets m := by simp [targets]
theorem visL_goes (g : G) (os : List Ob) {F : List Int} {r : Nat} : ∀ (l : List Int) {s : KS}, KInv F r s → (∀ x ∈ l, x % 2 = 1 ∨ (idx os (x / 2) : Int) ∈ F) → Goes g F r s (visL os r l s) ∧ ∀ j ∈ targets (l.map (valG os)), j ∈ (visL os r l s).M
  | [], s, h, _ => ⟨Goes.refl h, by simp [targets]⟩
  | x :: l, s, h, hl => by
    obtain ⟨h1, h2⟩ := visW_goes g os h (hl x List.mem_cons_self)
    obtain ⟨h3, h4⟩ := visL_goes g os l h1.inv (fun y hy => hl y (List.mem_cons_of_mem _ hy))
    refine ⟨h1.trans h3, ?_⟩
    rw [show (x :: l).map (valG os) = [valG os x] ++ l.map (valG os) from rfl, targets_append]
    intro j hj
    rcases List.mem_append.1 hj with hj | hj
    · exact h3.pre.subset (h2 j hj)
    · exact h4 j hj
/-- Taken from the stack and gone through. -/
theorem pop_goes {g : G} {os : List Ob} {F : List Int} {r : Nat} {s : KS} (h : KInv F r s) {S0 : List Int} {x : Int} (hS : s.S = S0 ++ [x]) (l : List Int) (hl : ∀ y ∈ l, y % 2 = 1 ∨ (idx os (y / 2) : Int) ∈ F)
    (hf : fieldsAt g x = l.map (valG os)) : KInv F r ⟨s.M, S0, s.lost⟩ ∧ Goes g F r s (visL os r l ⟨s.M, S0, s.lost⟩) ∧ mu F (visL os r l ⟨s.M, S0, s.lost⟩) < mu F s := by
  have hr := h.room
  rw [hS, List.length_append, List.length_cons, List.length_nil] at hr
  have h3 : KInv F r ⟨s.M, S0, s.lost⟩ := ⟨h.nodup, h.sub, fun y hy => h.wait y (by rw [hS]; exact List.mem_append_left _ hy), by show S0.length ≤ r; omega⟩
  obtain ⟨h4, h5⟩ := visL_goes g os l h3 hl
  have hm : mu F ⟨s.M, S0, s.lost⟩ < mu F s := by unfold mu; rw [hS]; simp
  refine ⟨h3, ⟨h4.inv, h4.pre, h4.lost1, h4.lost2, ?_, by have := h4.meas; omega⟩, by have := h4.meas; omega⟩
  intro P hP
  have h6 : Cl g (fun y => P y ∨ y = x) ⟨s.M, S0, s.lost⟩ := by
    intro e y hy
    rcases hP e y hy with h1 | h1 | h1
    · rw [hS] at h1
      rcases List.mem_append.1 h1 with h1 | h1
      · exact .inl h1
      · simp at h1; exact .inr (.inr (.inr h1))
    · exact .inr (.inl h1)
    · exact .inr (.inr (.inl h1))
  intro e y hy
  rcases h4.cl _ h6 e y hy with h1 | h1 | h1 | h1
  · exact .inl h1
  · exact .inr (.inl h1)
  · exact .inr (.inr h1)
  · subst h1
    rw [← hf] at h5
    exact .inr (.inl h5)
/-- The end: all that can be come to. -/
theorem mark_all {g : G} {F : List Int} (hF : OrdS g F) {r : Nat} {s : KS} (h : KInv F r s) (hl : s.lost = false) (hS : s.S = []) (hc : Cl g (fun _ => False) s) (h0 : ∀ j ∈ targets g.roots, j ∈ s.M) (x : Int) : x ∈ s.M ↔ x ∈ F := by
  refine ⟨h.sub x, fun hx => ?_⟩
  refine hF.least (P := fun x => x ∈ s.M) h0 ?_ x hx
  intro y hy j hj
  rcases hc hl y hy with h1 | h1 | h1
  · rw [hS] at h1; cases h1
  · exact h1 j hj
  · exact h1.elim
end Go.Proofs.Ytgdodbdipbomfaa
