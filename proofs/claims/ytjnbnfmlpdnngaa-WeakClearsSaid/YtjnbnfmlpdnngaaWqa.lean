/- weak.Clear, plainly: what is left; a second time nothing goes. -/
import Derived.Test.YtjnbnfmlpdnngaaKck
import Derived.Test.YtjnbnfmlpdnngaaCp
namespace Go.Proofs.Ytjnbnfmlpdnngaa

def deadL (kd : Int) (K : List Bool) : List V → Bool
  | [] => false
  | f :: _ => decide (kd = 2) && !aliveB K f
def wipe1 (kd : Int) (K : List Bool) (dead : Bool) (v : V) : V := if dead = true ∨ (kd = 1 ∧ aliveB K v = false) then ⟨false, 0⟩ else v
def wipeL (kd : Int) (K : List Bool) (l : List V) : List V := l.map (wipe1 kd K (deadL kd K l))
def wipeG (g : G) (ks : List Int) (K : List Bool) : G := ⟨(List.range g.objs.length).map fun i : Nat => wipeL (kindAt ks (i : Int)) K (fieldsAt g (i : Int)), g.roots⟩
theorem wipeL_len (kd : Int) (K : List Bool) (l : List V) : (wipeL kd K l).length = l.length := by simp [wipeL]
theorem wipeG_len (g : G) (ks : List Int) (K : List Bool) : (wipeG g ks K).objs.length = g.objs.length := by simp [wipeG]
theorem wipeG_at {g : G} {ks : List Int} {K : List Bool} {i : Nat} (hi : i < g.objs.length) : fieldsAt (wipeG g ks K) (i : Int) = wipeL (kindAt ks (i : Int)) K (fieldsAt g (i : Int)) := by
  conv => lhs; unfold fieldsAt
  rw [Int.toNat_natCast, List.getD_eq_getElem?_getD]
  unfold wipeG
  rw [List.getElem?_map, List.getElem?_range hi]
  rfl
theorem wipe1_or (kd : Int) (K : List Bool) (dead : Bool) (v : V) : wipe1 kd K dead v = ⟨false, 0⟩ ∨ (wipe1 kd K dead v = v ∧ dead = false ∧ (kd = 1 → aliveB K v = true)) := by
  unfold wipe1
  split
  · exact .inl rfl
  · rename_i h
    refine .inr ⟨rfl, ?_, fun hk => ?_⟩
    · cases dead with
      | true => exact absurd (.inl rfl) h
      | false => rfl
    · cases ha : aliveB K v with
      | true => rfl
      | false => exact absurd (.inr ⟨hk, ha⟩) h
theorem wipe_mem {kd : Int} {K : List Bool} {l : List V} {v : V} (h : v ∈ wipeL kd K l) : v = ⟨false, 0⟩ ∨ (v ∈ l ∧ deadL kd K l = false ∧ (kd = 1 → aliveB K v = true)) := by
  unfold wipeL at h
  obtain ⟨u, hu, rfl⟩ := List.mem_map.1 h
  rcases wipe1_or kd K (deadL kd K l) u with h1 | ⟨h1, h2, h3⟩
  · exact .inl h1
  · rw [h1]; exact .inr ⟨hu, h2, h3⟩
theorem alive_ref {K : List Bool} {v : V} (h : aliveB K v = true) (hr : v.ref = true) : kp K v.n = true := by simpa [aliveB, hr] using h
/-- What is left of what is kept is kept. -/
theorem WeakS.wiped {g : G} {ks : List Int} {K : List Bool} (hW : WeakS g ks K) (hk : KindsOk ks) {i : Int} (hi : kp K i = true) {v : V} (hv : v ∈ wipeL (kindAt ks i) K (fieldsAt g i)) (hr : v.ref = true) : kp K v.n = true := by
  rcases wipe_mem hv with rfl | ⟨hm, hd, ha⟩
  · cases hr
  · rcases kindAt_ok hk i with h0 | h1 | h2
    · exact hW.keeps i v hi (.inl ⟨h0, hm⟩) hr
    · exact alive_ref (ha h1) hr
    · cases hf : fieldsAt g i with
      | nil => rw [hf] at hm; cases hm
      | cons f fs =>
        rw [hf, h2] at hd
        have hfa : aliveB K f = true := by
          have hd2 : (decide ((2 : Int) = 2) && !aliveB K f) = false := hd
          simpa using hd2
        rw [hf] at hm
        rcases List.mem_cons.1 hm with rfl | hm
        · exact alive_ref hfa hr
        · exact hW.keeps i v hi (.inr ⟨h2, f, fs, hf, fun hr => alive_ref hfa hr, hm⟩) hr
theorem wipeG_fits {g : G} (hG : Good g) (ks : List Int) (K : List Bool) : Fits (wipeG g ks K) := by
  have hF := hG.fits
  have hobj : ∀ o ∈ (wipeG g ks K).objs, ∃ i : Nat, i < g.objs.length ∧ o = wipeL (kindAt ks (i : Int)) K (fieldsAt g (i : Int)) := by
    intro o ho
    obtain ⟨i, hi, rfl⟩ := List.mem_map.1 ho
    exact ⟨i, List.mem_range.1 hi, rfl⟩
  have hall : ∀ v ∈ allV (wipeG g ks K), v = ⟨false, 0⟩ ∨ v ∈ allV g := by
    intro v hv
    rcases List.mem_append.1 hv with hv | hv
    · exact .inr (List.mem_append_left _ hv)
    · obtain ⟨o, ho, hvo⟩ := List.mem_flatten.1 hv
      obtain ⟨i, hi, rfl⟩ := hobj o ho
      rcases wipe_mem hvo with h | ⟨h, _⟩
      · exact .inl h
      · exact .inr (fields_in g _ v h)
  refine ⟨by rw [wipeG_len]; exact hF.objs, hF.roots, fun o ho => ?_, fun v hv hr => ?_, fun v hv => ?_⟩
  · obtain ⟨i, hi, rfl⟩ := hobj o ho
    rw [wipeL_len]; exact hF.flen _
  · rw [wipeG_len]
    rcases hall v hv with rfl | h
    · cases hr
    · exact hF.rng v h hr
  · rcases hall v hv with rfl | h
    · exact ⟨by decide, by decide⟩
    · exact hF.vals v h
theorem listK_nodup (K : List Bool) : (listK K).Nodup := (listK_rising K).imp fun h => by omega
theorem badC_zero (n : Int) : badC ⟨false, 0⟩ n = 0 := by simp [badC]
theorem badC_num {v : V} (hr : v.ref = false) (n m : Int) : badC v n = badC v m := by simp [badC, hr]
theorem turnV_num {p : Int → Int} {v : V} (hr : v.ref = false) : turnV p v = v := by simp [turnV, hr]
theorem turnV_ref {p : Int → Int} {v : V} (hr : v.ref = true) : turnV p v = ⟨true, p v.n⟩ := by simp [turnV, hr]
section
variable {g : G} {ks : List Int} {K : List Bool}
theorem listK_get {x : Int} (hx : kp K x = true) : ∃ i : Nat, (listK K)[i]? = some x ∧ i < (listK K).length := by
  obtain ⟨i, hi, he⟩ := List.getElem_of_mem (mem_listK.2 hx)
  exact ⟨i, by rw [List.getElem?_eq_getElem hi, he], hi⟩
/-- What is left may be. -/
theorem WeakS.good (hW : WeakS g ks K) (hk : KindsOk ks) (hG : Good g) : Good (renum (wipeG g ks K) (listK K)) := by
  have hll : (listK K).length ≤ g.objs.length := by have := listTo_len K K.length; have := hW.inv.len; unfold listK; omega
  have key : ∀ v : V, (v.ref = true → kp K v.n = true) → (v.ref = false → badC v (g.objs.length : Int) = 0) → badC (turnV (at_ (listK K) (listK K).length) v) ((listK K).length : Int) = 0 := by
    intro v h1 h2
    cases hr : v.ref with
    | true =>
      rw [turnV_ref hr]
      obtain ⟨i, hi, hil⟩ := listK_get (h1 hr)
      rw [at_place (listK_nodup K) hi]
      unfold badC
      rw [if_pos rfl, if_neg (show ¬ ((i : Int) < 0 ∨ ((listK K).length : Int) ≤ (i : Int)) by omega)]
    | false => rw [turnV_num hr, badC_num hr _ (g.objs.length : Int)]; exact h2 hr
  have hlen : (renum (wipeG g ks K) (listK K)).objs.length = (listK K).length := by simp [renum]
  refine ⟨by rw [hlen]; have := hG.objs; omega, by simp only [renum, wipeG, List.length_map]; exact hG.roots, fun o ho => ?_, fun v hv => ?_⟩
  · obtain ⟨x, hx, rfl⟩ := List.mem_map.1 ho
    have h1 := listK_in hx
    rw [hW.inv.len] at h1
    obtain ⟨i, rfl⟩ : ∃ i : Nat, x = (i : Int) := ⟨x.toNat, by omega⟩
    rw [List.length_map, wipeG_at (by omega), wipeL_len]
    exact fieldsAt_len hG _
  · rw [hlen]
    rcases List.mem_append.1 hv with hv | hv
    · obtain ⟨u, hu, rfl⟩ := List.mem_map.1 hv
      exact key u (fun hr => hW.inv.root u hu hr) fun _ => hG.vals u (List.mem_append_left _ hu)
    · obtain ⟨o, ho, hvo⟩ := List.mem_flatten.1 hv
      obtain ⟨x, hx, rfl⟩ := List.mem_map.1 ho
      obtain ⟨u, hu, rfl⟩ := List.mem_map.1 hvo
      have h1 := listK_in hx
      rw [hW.inv.len] at h1
      obtain ⟨i, rfl⟩ : ∃ i : Nat, x = (i : Int) := ⟨x.toNat, by omega⟩
      rw [wipeG_at (by omega)] at hu
      refine key u (fun hr => hW.wiped hk (mem_listK.1 hx) hu hr) fun _ => ?_
      rcases wipe_mem hu with rfl | ⟨h, _⟩
      · exact badC_zero _
      · exact hG.vals u (fields_in g _ u h)
theorem left_len : (renum (wipeG g ks K) (listK K)).objs.length = (listK K).length := by simp [renum]
theorem left_fields (hW : WeakS g ks K) {k : Nat} {x : Int} (hx : (listK K)[k]? = some x) : fieldsAt (renum (wipeG g ks K) (listK K)) (k : Int) = (wipeL (kindAt ks x) K (fieldsAt g x)).map (turnV (at_ (listK K) (listK K).length)) := by
  have h1 := listK_in (List.mem_of_getElem? hx)
  rw [hW.inv.len] at h1
  obtain ⟨i, rfl⟩ : ∃ i : Nat, x = (i : Int) := ⟨x.toNat, by omega⟩
  rw [renum_fields hx, wipeG_at (by omega)]
theorem left_kind {k : Nat} {x : Int} (hx : (listK K)[k]? = some x) : kindAt ((listK K).map (kindAt ks)) (k : Int) = kindAt ks x := by
  conv => lhs; unfold kindAt
  rw [Int.toNat_natCast, List.getD_eq_getElem?_getD, List.getElem?_map, hx]; rfl
theorem wipe_id {kd : Int} {K : List Bool} {l : List V} (hd : deadL kd K l = false) (ha : kd = 1 → ∀ v ∈ l, aliveB K v = true) : wipeL kd K l = l := by
  unfold wipeL
  rw [hd]
  conv => rhs; rw [← List.map_id l]
  refine List.map_congr_left fun v hv => ?_
  unfold wipe1
  rw [if_neg]
  · rfl
  · rintro (h | ⟨h1, h2⟩)
    · cases h
    · rw [ha h1 v hv] at h2; cases h2
/-- All that is left is kept. -/
theorem WeakS.again (hW : WeakS g ks K) {K' : List Bool} (hW' : WeakS (renum (wipeG g ks K) (listK K)) ((listK K).map (kindAt ks)) K') : ∀ j : Nat, j < (listK K).length → kp K' (j : Int) = true := by
  have hsub : Sub K (fun i => kp K i = true ∧ kp K' (at_ (listK K) (listK K).length i) = true) := by
    refine hW.inv.least _ (fun i v hi hs hr => ?_) fun v hv hr => ?_
    · have hkv : kp K v.n = true := hW.keeps i v hi.1 (hs.mono fun _ h => h.1) hr
      obtain ⟨j, hj, _⟩ := listK_get hi.1
      have hi2 := hi.2
      rw [at_place (listK_nodup K) hj] at hi2
      have h1 := hW'.keeps (j : Int) (turnV (at_ (listK K) (listK K).length) v) hi2 ?_ (by rw [turnV_ref hr])
      · rw [turnV_ref hr] at h1
        exact ⟨hkv, h1⟩
      · rcases hs with ⟨h0, hm⟩ | ⟨h2, f, fs, hf, hfa, hm⟩
        · refine .inl ⟨(left_kind hj).trans h0, ?_⟩
          rw [left_fields hW hj, wipe_id]
          · exact List.mem_map.2 ⟨v, hm, rfl⟩
          · rw [h0]
            cases fieldsAt g i <;> rfl
          · intro h1; rw [h0] at h1; cases h1
        · have hal : aliveB K f = true := by
            unfold aliveB
            cases hfr : f.ref with
            | false => rfl
            | true => rw [(hfa hfr).1]; rfl
          refine .inr ⟨(left_kind hj).trans h2, turnV (at_ (listK K) (listK K).length) f, fs.map (turnV (at_ (listK K) (listK K).length)), ?_, fun hfr => ?_, List.mem_map.2 ⟨v, hm, rfl⟩⟩
          · rw [left_fields hW hj, wipe_id, hf]
            · rfl
            · rw [hf, h2]
              show (decide ((2 : Int) = 2) && !aliveB K f) = false
              rw [hal]; rfl
            · intro h1; rw [h2] at h1; cases h1
          · cases hr2 : f.ref with
            | false => rw [turnV_num hr2, hr2] at hfr; cases hfr
            | true => rw [turnV_ref hr2]; exact (hfa hr2).2
    · refine ⟨hW.inv.root v hv hr, ?_⟩
      have h1 := hW'.inv.root (turnV (at_ (listK K) (listK K).length) v) (List.mem_map.2 ⟨v, hv, rfl⟩) (by rw [turnV_ref hr])
      rw [turnV_ref hr] at h1
      exact h1
  intro j hj
  obtain ⟨x, hx⟩ : ∃ x, (listK K)[j]? = some x := ⟨_, List.getElem?_eq_getElem hj⟩
  have h1 := (hsub x (mem_listK.1 (List.mem_of_getElem? hx))).2
  rw [at_place (listK_nodup K) hx] at h1
  exact h1
end
/-- Where all are kept, nothing goes. -/
theorem clear_id {c : G} {ls : List Int} {K : List Bool} (hG : Good c) (hl : K.length = c.objs.length) (hall : ∀ j : Nat, j < c.objs.length → kp K (j : Int) = true) : renum (wipeG c ls K) (listK K) = c := by
  have hal : ∀ v ∈ allV c, aliveB K v = true := by
    intro v hv
    unfold aliveB
    cases hr : v.ref with
    | false => rfl
    | true =>
      have h1 := hG.fits.rng v hv hr
      have h2 := hall v.n.toNat (by omega)
      rw [show ((v.n.toNat : Nat) : Int) = v.n by omega] at h2
      rw [h2]; rfl
  have hlk : listK K = (List.range c.objs.length).map fun i : Nat => (i : Int) := by
    unfold listK listTo
    rw [hl, List.filter_eq_self.2]
    intro i hi
    have h1 := hall i (List.mem_range.1 hi)
    unfold kp at h1
    rw [Int.toNat_natCast, Bool.and_eq_true] at h1
    exact h1.2
  have hll : (listK K).length = c.objs.length := by rw [hlk]; simp
  have hat : ∀ i : Nat, i < c.objs.length → at_ (listK K) (listK K).length (i : Int) = i := by
    intro i hi
    refine at_place (listK_nodup K) ?_
    rw [hlk, List.getElem?_map, List.getElem?_range hi]; rfl
  have hturn : ∀ v ∈ allV c, turnV (at_ (listK K) (listK K).length) v = v := by
    intro v hv
    cases hr : v.ref with
    | false => exact turnV_num hr
    | true =>
      have h1 := hG.fits.rng v hv hr
      obtain ⟨r, n⟩ := v
      cases hr
      simp only at h1
      obtain ⟨i, rfl⟩ : ∃ i : Nat, n = (i : Int) := ⟨n.toNat, by omega⟩
      rw [turnV_ref rfl, hat i (by omega)]
  have hmap : ∀ l : List V, (∀ v ∈ l, v ∈ allV c) → l.map (turnV (at_ (listK K) (listK K).length)) = l := by
    intro l hl
    conv => rhs; rw [← List.map_id l]
    exact List.map_congr_left fun v hv => hturn v (hl v hv)
  have hw : ∀ i : Nat, i < c.objs.length → fieldsAt (wipeG c ls K) (i : Int) = fieldsAt c (i : Int) := by
    intro i hi
    rw [wipeG_at hi, wipe_id]
    · cases hf : fieldsAt c (i : Int) with
      | nil => rfl
      | cons f fs =>
        have h1 := hal f (fields_in c _ f (by rw [hf]; exact List.mem_cons_self ..))
        show (decide (kindAt ls (i : Int) = 2) && !aliveB K f) = false
        rw [h1]; simp
    · exact fun _ v hv => hal v (fields_in c _ v hv)
  have hobj : (listK K).map (fun x => (fieldsAt (wipeG c ls K) x).map (turnV (at_ (listK K) (listK K).length))) = c.objs := by
    refine List.ext_getElem? fun i => ?_
    rcases Nat.lt_or_ge i c.objs.length with h | h
    · rw [List.getElem?_map]
      have h1 : (listK K)[i]? = some (i : Int) := by rw [hlk, List.getElem?_map, List.getElem?_range h]; rfl
      rw [h1, Option.map_some, hw i h, hmap _ (fields_in c _)]
      unfold fieldsAt
      rw [Int.toNat_natCast, List.getD_eq_getElem?_getD, List.getElem?_eq_getElem h]; rfl
    · rw [List.getElem?_eq_none (by simpa [hll] using h), List.getElem?_eq_none h]
  have hroot : (wipeG c ls K).roots.map (turnV (at_ (listK K) (listK K).length)) = c.roots := hmap _ fun v hv => List.mem_append_left _ hv
  unfold renum
  rw [hobj, hroot]
end Go.Proofs.Ytjnbnfmlpdnngaa
