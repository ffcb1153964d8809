/- A memory with so many words: rows by place, room, who clears it up. Plain. -/
import Derived.Test.YtmmcjjklmcfegaaC2
namespace Go.Proofs.Ytmmcjjklmcfegaa

structure Rx where
  at_ : List Int
  times : Int
/-- How many words an object takes. -/
def szO (os : Os) (i : Int) : Int := 1 + ((objAt os i).length : Int)
def rowL (os : Os) (a : List Int) : List Int := (thereL os os.length).mergeSort (fun x y => decide (cAt a x ≤ cAt a y))
def roomF (sw : Bool) (words n : Int) (os : Os) (a : List Int) : List Int → Int → Int
  | [], next => if n ≤ words - next then next else -1
  | i :: l, next => if sw = true ∧ n ≤ cAt a i - next then next else roomF sw words n os a l (cAt a i + szO os i)
def downF (os : Os) : List Int → Int → List Int → List Int
  | [], _, a => a
  | i :: l, next, a => downF os l (next + szO os i) (a.set i.toNat next)
noncomputable def foundL (regs : List V) (os : Os) : List Int := open Classical in if h : ∃ l, ∃ dist, FoundS (gOf regs os) l dist then Classical.choose h else []
def killed (os : Os) (L : List Int) : Os := killL os ((thereL os os.length).filter fun i => !decide (i ∈ L))
noncomputable def clearS (col : Int) (s : Sm Rx) : Sm Rx :=
  ⟨s.regs, killed s.os (foundL s.regs s.os),
    ⟨if col = 2 then downF (killed s.os (foundL s.regs s.os)) (foundL s.regs s.os) 0 s.x.at_
      else if col = 3 then downF (killed s.os (foundL s.regs s.os)) (rowL (killed s.os (foundL s.regs s.os)) s.x.at_) 0 s.x.at_ else s.x.at_, s.x.times + 1⟩⟩
def roomS (col words : Int) (s : Sm Rx) (n : Int) : Int := roomF (decide (col = 1)) words n s.os s.x.at_ (rowL s.os s.x.at_) 0
def pushS (s : Sm Rx) (n : Nat) (a : Int) : Sm Rx := ⟨s.regs, s.os ++ [some (zerosV n)], ⟨s.x.at_ ++ [a], s.x.times⟩⟩
noncomputable def rKd (col words : Int) : Kd Rx where
  new := fun s n => if 0 ≤ roomS col words s (1 + n) then (pushS s n (roomS col words s (1 + n)), some (s.os.length : Int))
    else if 0 ≤ roomS col words (clearS col s) (1 + n) then (pushS (clearS col s) n (roomS col words (clearS col s) (1 + n)), some (s.os.length : Int))
    else (clearS col s, none)
  put := fun s i k u => ⟨s.regs, s.os.set i.toNat (some ((objAt s.os i).set k u)), s.x⟩
  hold := fun s _ _ => s
noncomputable def rstep (col words : Int) (s : Sm Rx) (d : Dd) : Sm Rx × Ot := if d.kind = 8 then (clearS col s, ⟨0, false, 0⟩) else (rKd col words).step s d

/-- What is found is there to be found. -/
theorem visitTo_mono (k : Nat) : ∀ (pre : List Int) (s : S), s.1.length ≤ (visitTo s k pre).1.length := by
  intro pre
  induction pre with
  | nil => intro s; exact Nat.le_refl _
  | cons x pre ih =>
    intro s
    show _ ≤ (visitTo (take1 (distAt s k + 1) s x) k pre).1.length
    exact Nat.le_trans (take1_len _ _ _) (ih _)
theorem found_ex {g : G} (hg : Rng g) : ∃ l dist, FoundS g l dist := by
  have hex : ∃ k, k ≤ g.objs.length ∧ ¬ (k < (foundAt g k).1.length) ∧ ∀ j, j < k → j < (foundAt g j).1.length := by
    have key : ∀ m, (∃ k, k ≤ m ∧ ¬ (k < (foundAt g k).1.length) ∧ ∀ j, j < k → j < (foundAt g j).1.length) ∨ ∀ j, j ≤ m → j < (foundAt g j).1.length := by
      intro m
      induction m with
      | zero =>
        by_cases h : 0 < (foundAt g 0).1.length
        · right; intro j hj; obtain rfl : j = 0 := by omega
          exact h
        · left; exact ⟨0, Nat.le_refl _, h, fun j hj => by omega⟩
      | succ m ih =>
        rcases ih with ⟨k, h1, h2, h3⟩ | ih
        · exact .inl ⟨k, by omega, h2, h3⟩
        · by_cases h : m + 1 < (foundAt g (m + 1)).1.length
          · right; intro j hj
            rcases Nat.lt_or_ge j (m + 1) with h1 | h1
            · exact ih j (by omega)
            · obtain rfl : j = m + 1 := by omega
              exact h
          · exact .inl ⟨m + 1, Nat.le_refl _, h, fun j hj => ih j (by omega)⟩
    rcases key g.objs.length with h | h
    · exact h
    · have h1 := (foundAt_invR hg g.objs.length (fun j hj => h j (by omega))).length_le
      have h2 := h _ (Nat.le_refl _)
      omega
  obtain ⟨k, _, h2, h3⟩ := hex
  refine ⟨(foundAt g k).1, (foundAt g k).2, k, rfl, ?_, h3⟩
  refine Nat.le_antisymm ?_ (by omega)
  cases k with
  | zero => exact Nat.zero_le _
  | succ k =>
    have h4 := h3 k (by omega)
    have h5 : (foundAt g k).1.length ≤ (foundAt g (k + 1)).1.length := visitTo_mono _ _ _
    omega
theorem foundL_is {regs : List V} {os : Os} {l dist : List Int} (h : FoundS (gOf regs os) l dist) : foundL regs os = l := by
  have hex : ∃ l, ∃ dist, FoundS (gOf regs os) l dist := ⟨l, dist, h⟩
  unfold foundL
  rw [dif_pos hex]
  obtain ⟨d', hd⟩ := Classical.choose_spec hex
  exact (hd.unique h).1
theorem foundL_far {regs : List V} {os : Os} (hF : Fine regs os) (hn : os.length ≤ 1000) : ∃ dist, FoundS (gOf regs os) (foundL regs os) dist ∧ Far (gOf regs os) (foundL regs os) dist := by
  have hr := (hF.fits hn).rng
  obtain ⟨l, dist, h⟩ := found_ex hr
  rw [foundL_is h]
  exact ⟨dist, h, h.farR hr⟩
/-- What is found is what registers lead to. -/
theorem foundL_leads {regs : List V} {os : Os} (hF : Fine regs os) (hn : os.length ≤ 1000) (hl : ∀ i, RchM regs os i → Lives os i) (x : Int) : x ∈ foundL regs os ↔ RchM regs os x := by
  obtain ⟨dist, _, h⟩ := foundL_far hF hn
  constructor
  · have key : ∀ (n : Nat) (y : Int), y ∈ foundL regs os → D (foundL regs os, dist) y = n → RchM regs os y := by
      intro n
      induction n with
      | zero =>
        intro y hy hd
        rcases h.par y hy with ⟨h1, _⟩ | ⟨p, hp, _, h2⟩
        · obtain ⟨v, hv, hr, rfl⟩ := mem_targets_iff'.1 h1
          exact .root hv hr
        · have := (h.inv.found (h.inv.rng p hp)).2 hp
          omega
      | succ n ih =>
        intro y hy hd
        rcases h.par y hy with ⟨h1, _⟩ | ⟨p, hp, h1, h2⟩
        · obtain ⟨v, hv, hr, rfl⟩ := mem_targets_iff'.1 h1
          exact .root hv hr
        · have h3 := ih p hp (by omega)
          obtain ⟨v, hv, hr, rfl⟩ := mem_targets_iff'.1 h1
          rw [fieldsAt_gOf] at hv
          exact .step h3 (hl p h3).obj hv hr
    intro hx
    have h0 := (h.inv.found (h.inv.rng x hx)).2 hx
    exact key (D (foundL regs os, dist) x).toNat x hx (by omega)
  · intro hx
    refine hx.least (P := (· ∈ foundL regs os)) (fun v hv hr => (h.root _ (mem_targets_iff'.2 ⟨v, hv, hr, rfl⟩)).1) (fun i o hi ho v hv hr => (h.closed i hi _ (mem_targets_iff'.2 ⟨v, ?_, hr, rfl⟩)).1)
    rw [fieldsAt_gOf]
    have : objAt os i = o := by unfold objAt; rw [ho]; rfl
    rw [this]; exact hv
theorem foundL_nodup {regs : List V} {os : Os} (hF : Fine regs os) (hn : os.length ≤ 1000) : (foundL regs os).Nodup := by
  obtain ⟨dist, _, h⟩ := foundL_far hF hn
  exact h.inv.nodup

/-- Places: objects lie apart, within the words. -/
structure PlI (words : Int) (os : Os) (a : List Int) : Prop where
  len : a.length = os.length
  lo : ∀ i, Lives os i → 0 ≤ cAt a i
  hi : ∀ i, Lives os i → cAt a i + szO os i ≤ words
  ap : ∀ i j, Lives os i → Lives os j → i ≠ j → cAt a i + szO os i ≤ cAt a j ∨ cAt a j + szO os j ≤ cAt a i
theorem szO_pos (os : Os) (i : Int) : 1 ≤ szO os i := by unfold szO; omega
theorem mem_rowL {os : Os} {a : List Int} {x : Int} : x ∈ rowL os a ↔ Lives os x := by
  unfold rowL
  rw [List.mem_mergeSort, mem_thereL (Nat.le_refl _)]
  constructor
  · rintro ⟨h, _⟩; exact h
  · intro h; exact ⟨h, by have := h.lt; have := h.1; omega⟩
theorem rowL_perm (os : Os) (a : List Int) : (rowL os a).Perm (thereL os os.length) := List.mergeSort_perm _ _
theorem rowL_nodup (os : Os) (a : List Int) : (rowL os a).Nodup := (rowL_perm os a).nodup_iff.2 (rising_nodup (thereL_rising _ _))
/-- A row that stands apart, in order. -/
def Rise (os : Os) (a : List Int) (l : List Int) : Prop := l.Pairwise fun x y => cAt a x + szO os x ≤ cAt a y
theorem rowL_le (os : Os) (a : List Int) : (rowL os a).Pairwise fun x y => cAt a x ≤ cAt a y := by
  have h := List.pairwise_mergeSort (le := fun x y : Int => decide (cAt a x ≤ cAt a y)) (fun x y z h1 h2 => by simp at *; omega) (fun x y => by simp; omega) (thereL os os.length)
  exact h.imp fun h => by simpa using h
theorem PlI.rise {words : Int} {os : Os} {a : List Int} (h : PlI words os a) : Rise os a (rowL os a) := by
  have h1 := rowL_le os a
  have h2 := rowL_nodup os a
  have h3 := h1.and h2
  refine List.Pairwise.imp_of_mem ?_ h3
  intro x y hx hy hxy
  have hx' := mem_rowL.1 hx
  have hy' := mem_rowL.1 hy
  rcases h.ap x y hx' hy' hxy.2 with h4 | h4
  · exact h4
  · have := szO_pos os y
    have := hxy.1
    omega
/-- A sorted row of what is there is the row by place. -/
theorem rowL_unique {words : Int} {os : Os} {a : List Int} (h : PlI words os a) {l : List Int} (hp : l.Perm (thereL os os.length)) (hs : l.Pairwise fun x y => cAt a x ≤ cAt a y) : l = rowL os a := by
  have hp2 : l.Perm (rowL os a) := hp.trans (rowL_perm os a).symm
  have hnd : l.Nodup := hp2.nodup_iff.2 (rowL_nodup os a)
  have hr := h.rise
  have lt1 : l.Pairwise fun x y => cAt a x < cAt a y := by
    refine List.Pairwise.imp_of_mem ?_ (hs.and hnd)
    intro x y hx hy hxy
    have hx' := mem_rowL.1 (hp2.mem_iff.1 hx)
    have hy' := mem_rowL.1 (hp2.mem_iff.1 hy)
    have := szO_pos os x
    have := szO_pos os y
    have := hxy.1
    rcases h.ap x y hx' hy' hxy.2 with h4 | h4 <;> omega
  have lt2 : (rowL os a).Pairwise fun x y => cAt a x < cAt a y := hr.imp fun {x y} h => by have := szO_pos os x; omega
  exact List.Perm.eq_of_pairwise (le := fun x y => cAt a x < cAt a y) (fun x y _ _ h1 h2 => by omega) lt1 lt2 hp2
theorem roomF_says (sw : Bool) (words n : Int) (os : Os) (a : List Int) : ∀ (l : List Int) (next : Int), Rise os a l → (∀ y ∈ l, next ≤ cAt a y) → 0 ≤ next → roomF sw words n os a l next = -1 ∨
    (next ≤ roomF sw words n os a l next ∧ (∀ y ∈ l, cAt a y + szO os y ≤ roomF sw words n os a l next ∨ roomF sw words n os a l next + n ≤ cAt a y) ∧ ((∀ y ∈ l, cAt a y + szO os y ≤ words) → roomF sw words n os a l next + n ≤ words)) := by
  intro l
  induction l with
  | nil =>
    intro next _ _ h0
    unfold roomF
    split
    · right; exact ⟨Int.le_refl _, fun y hy => (by cases hy), fun _ => by omega⟩
    · left; rfl
  | cons i l ih =>
    intro next hr hy h0
    have hr' := List.pairwise_cons.1 hr
    have hi := hy i (List.mem_cons_self ..)
    have hs := szO_pos os i
    unfold roomF
    split
    · rename_i hc
      right
      refine ⟨Int.le_refl _, fun y hy' => ?_, fun hw => ?_⟩
      · right
        rcases List.mem_cons.1 hy' with rfl | hy'
        · omega
        · have := hr'.1 y hy'; omega
      · have := hw i (List.mem_cons_self ..); omega
    · rcases ih (cAt a i + szO os i) hr'.2 (fun y hy' => hr'.1 y hy') (by omega) with h1 | ⟨h1, h2, h3⟩
      · exact .inl h1
      · right
        refine ⟨by omega, fun y hy' => ?_, fun hw => h3 fun y hy' => hw y (List.mem_cons_of_mem _ hy')⟩
        rcases List.mem_cons.1 hy' with rfl | hy'
        · left; omega
        · exact h2 y hy'
theorem cAt_push (a : List Int) (x : Int) (i : Int) (h0 : 0 ≤ i) : cAt (a ++ [x]) i = if i = a.length then x else cAt a i := by
  unfold cAt
  rw [List.getD_eq_getElem?_getD, List.getD_eq_getElem?_getD]
  by_cases h : i.toNat < a.length
  · rw [List.getElem?_append_left h, if_neg (by omega)]
  · rw [List.getElem?_append_right (by omega)]
    by_cases e : i = a.length
    · rw [if_pos e, e]; simp
    · rw [if_neg e, List.getElem?_eq_none (l := a) (by omega), List.getElem?_eq_none (by simp; omega)]
theorem lives_push {os : Os} {n : Nat} {i : Int} (h : Lives (os ++ [some (zerosV n)]) i) : Lives os i ∨ i = os.length := by
  obtain ⟨h0, l, hl⟩ := h
  rcases Nat.lt_or_ge i.toNat os.length with h1 | h1
  · rw [List.getElem?_append_left h1] at hl
    exact .inl ⟨h0, l, hl⟩
  · right
    have := (List.getElem?_eq_some_iff.1 hl).1
    simp at this; omega
theorem objAt_push' {os : Os} {n : Nat} {i : Int} (h : Lives os i) : objAt (os ++ [some (zerosV n)]) i = objAt os i := objAt_push _ _ h.1 (by have := h.lt; have := h.1; omega)
theorem PlI.push {words : Int} {os : Os} {a : List Int} (h : PlI words os a) (sw : Bool) (n : Nat) (hr : 0 ≤ roomF sw words (1 + n) os a (rowL os a) 0) :
    PlI words (os ++ [some (zerosV n)]) (a ++ [roomF sw words (1 + n) os a (rowL os a) 0]) := by
  rcases roomF_says sw words (1 + n) os a (rowL os a) 0 h.rise (fun y hy => h.lo y (mem_rowL.1 hy)) (Int.le_refl _) with h1 | ⟨_, h2, h3⟩
  · omega
  · have h3 := h3 fun y hy => h.hi y (mem_rowL.1 hy)
    obtain ⟨r, hr'⟩ : ∃ r, roomF sw words (1 + n) os a (rowL os a) 0 = r := ⟨_, rfl⟩
    rw [hr'] at h2 h3 hr ⊢
    have h2' : ∀ y, Lives os y → cAt a y + szO os y ≤ r ∨ r + (1 + n) ≤ cAt a y := fun y hy => h2 y (mem_rowL.2 hy)
    have hne : ∀ i, Lives os i → ¬ i = (a.length : Int) := fun i hi => by have := hi.lt; have := hi.1; rw [h.len]; omega
    have ca : ∀ i, Lives os i → cAt (a ++ [r]) i = cAt a i := fun i hi => by rw [cAt_push _ _ _ hi.1, if_neg (hne i hi)]
    have cn : cAt (a ++ [r]) (os.length : Int) = r := by rw [cAt_push _ _ _ (by omega), if_pos (by rw [h.len])]
    have sa : ∀ i, Lives os i → szO (os ++ [some (zerosV n)]) i = szO os i := fun i hi => by unfold szO; rw [objAt_push' hi]
    have sn : szO (os ++ [some (zerosV n)]) (os.length : Int) = 1 + n := by unfold szO; rw [objAt_new]; unfold zerosV; simp
    refine ⟨by simp [h.len], ?_, ?_, ?_⟩
    · intro i hi
      rcases lives_push hi with hi | rfl
      · rw [ca i hi]; exact h.lo i hi
      · rw [cn]; exact hr
    · intro i hi
      rcases lives_push hi with hi | rfl
      · rw [ca i hi, sa i hi]; exact h.hi i hi
      · rw [cn, sn]; exact h3
    · intro i j hi hj hij
      rcases lives_push hi with hi | rfl
      · rcases lives_push hj with hj | rfl
        · rw [ca i hi, sa i hi, ca j hj, sa j hj]; exact h.ap i j hi hj hij
        · rw [ca i hi, sa i hi, cn, sn]; exact h2' i hi
      · rcases lives_push hj with hj | rfl
        · rw [ca j hj, sa j hj, cn, sn]; exact (h2' j hj).symm
        · exact absurd rfl hij
theorem PlI.put {words : Int} {os : Os} {a : List Int} (h : PlI words os a) {j : Int} (hj : Lives os j) (k : Nat) (u : V) : PlI words (os.set j.toNat (some ((objAt os j).set k u))) a := by
  have hl : ∀ i, Lives (os.set j.toNat (some ((objAt os j).set k u))) i → Lives os i := by
    rintro i ⟨h0, l, hl⟩
    by_cases e : j.toNat = i.toNat
    · have : i = j := by have := hj.1; omega
      rw [this]; exact hj
    · rw [List.getElem?_set_ne e] at hl; exact ⟨h0, l, hl⟩
  have hs : ∀ i, 0 ≤ i → szO (os.set j.toNat (some ((objAt os j).set k u))) i = szO os i := by
    intro i hi
    have := hj.lt
    have := hj.1
    unfold szO
    rw [objAt_set _ hi hj.1 (by omega)]
    split
    · rename_i e; subst e; rw [List.length_set]
    · rfl
  refine ⟨by rw [List.length_set]; exact h.len, fun i hi => h.lo i (hl i hi), fun i hi => ?_, fun i j' hi hj' hij => ?_⟩
  · rw [hs i hi.1]; exact h.hi i (hl i hi)
  · rw [hs i hi.1, hs j' hj'.1]; exact h.ap i j' (hl i hi) (hl j' hj') hij
/-- Objects stand one behind the other. -/
def Pk (os : Os) (a : List Int) : List Int → Int → Prop
  | [], _ => True
  | i :: l, next => cAt a i = next ∧ Pk os a l (next + szO os i)
def totL (os : Os) (l : List Int) : Int := (l.map (szO os)).sum
theorem totL_cons (os : Os) (i : Int) (l : List Int) : totL os (i :: l) = szO os i + totL os l := by simp [totL]
theorem totL_perm {os : Os} {l m : List Int} (h : l.Perm m) : totL os l = totL os m := by
  induction h with
  | nil => rfl
  | cons x _ ih => rw [totL_cons, totL_cons, ih]
  | swap x y l => rw [totL_cons, totL_cons, totL_cons, totL_cons]; omega
  | trans _ _ h1 h2 => rw [h1, h2]
theorem totL_pos (os : Os) (l : List Int) : 0 ≤ totL os l := by
  induction l with
  | nil => exact Int.le_refl _
  | cons x l ih => rw [totL_cons]; have := szO_pos os x; omega
theorem Pk.says {os : Os} {a : List Int} : ∀ {l : List Int} {next : Int}, Pk os a l next → Rise os a l ∧ ∀ x ∈ l, next ≤ cAt a x ∧ cAt a x + szO os x ≤ next + totL os l := by
  intro l
  induction l with
  | nil => intro next _; exact ⟨List.Pairwise.nil, fun x hx => by cases hx⟩
  | cons i l ih =>
    intro next h
    obtain ⟨h1, h2⟩ := h
    obtain ⟨h3, h4⟩ := ih h2
    have hs := szO_pos os i
    have h0 := totL_pos os l
    refine ⟨List.pairwise_cons.2 ⟨fun y hy => ?_, h3⟩, fun x hx => ?_⟩
    · rw [h1]; exact (h4 y hy).1
    · rw [totL_cons]
      rcases List.mem_cons.1 hx with rfl | hx
      · omega
      · have := h4 x hx; omega
theorem downF_len (os : Os) : ∀ (l : List Int) (next : Int) (a : List Int), (downF os l next a).length = a.length := by
  intro l
  induction l with
  | nil => intro next a; rfl
  | cons i l ih => intro next a; unfold downF; rw [ih, List.length_set]
theorem downF_other (os : Os) : ∀ (l : List Int) (next : Int) (a : List Int), (∀ y ∈ l, 0 ≤ y ∧ y < (a.length : Int)) → ∀ x, 0 ≤ x → x ∉ l → cAt (downF os l next a) x = cAt a x := by
  intro l
  induction l with
  | nil => intro next a _ x _ _; rfl
  | cons i l ih =>
    intro next a hl x h0 hx
    have hi := hl i (List.mem_cons_self ..)
    unfold downF
    rw [ih _ _ (fun y hy => by rw [List.length_set]; exact hl y (List.mem_cons_of_mem _ hy)) x h0 (fun h => hx (List.mem_cons_of_mem _ h)), cAt_set _ hi.1 hi.2 h0, if_neg (fun e => hx (by rw [e]; exact List.mem_cons_self ..))]
theorem pk_congr {os : Os} {a b : List Int} : ∀ {l : List Int} {next : Int}, (∀ x ∈ l, cAt b x = cAt a x) → Pk os a l next → Pk os b l next := by
  intro l
  induction l with
  | nil => intro next _ _; trivial
  | cons i l ih =>
    intro next h h2
    exact ⟨by rw [h i (List.mem_cons_self ..)]; exact h2.1, ih (fun x hx => h x (List.mem_cons_of_mem _ hx)) h2.2⟩
theorem downF_pk (os : Os) : ∀ (l : List Int) (next : Int) (a : List Int), l.Nodup → (∀ y ∈ l, 0 ≤ y ∧ y < (a.length : Int)) → Pk os (downF os l next a) l next := by
  intro l
  induction l with
  | nil => intro next a _ _; trivial
  | cons i l ih =>
    intro next a hn hl
    have hn' := List.nodup_cons.1 hn
    have hi := hl i (List.mem_cons_self ..)
    have hl' : ∀ y ∈ l, 0 ≤ y ∧ y < ((a.set i.toNat next).length : Int) := fun y hy => by rw [List.length_set]; exact hl y (List.mem_cons_of_mem _ hy)
    refine ⟨?_, ih _ _ hn'.2 hl'⟩
    show cAt (downF os l _ _) i = next
    rw [downF_other os l _ _ hl' i hi.1 hn'.1, cAt_set _ hi.1 hi.2 hi.1, if_pos rfl]
theorem rise_tot {words : Int} {os : Os} {a : List Int} : ∀ {l : List Int} {next : Int}, Rise os a l → (∀ y ∈ l, next ≤ cAt a y) → (∀ y ∈ l, cAt a y + szO os y ≤ words) → next ≤ words → next + totL os l ≤ words := by
  intro l
  induction l with
  | nil => intro next _ _ _ h; simpa [totL] using h
  | cons i l ih =>
    intro next hr h1 h2 h3
    have hr' := List.pairwise_cons.1 hr
    have := h1 i (List.mem_cons_self ..)
    have := ih hr'.2 (next := cAt a i + szO os i) (fun y hy => hr'.1 y hy) (fun y hy => h2 y (List.mem_cons_of_mem _ hy)) (h2 i (List.mem_cons_self ..))
    rw [totL_cons]; omega
theorem PlI.tot {words : Int} {os : Os} {a : List Int} (h : PlI words os a) (hw : 0 ≤ words) : totL os (thereL os os.length) ≤ words := by
  have := rise_tot (words := words) (next := 0) h.rise (fun y hy => h.lo y (mem_rowL.1 hy)) (fun y hy => h.hi y (mem_rowL.1 hy)) hw
  rw [totL_perm (rowL_perm os a)] at this
  omega
/-- Down: all stand one behind the other. -/
theorem PlI.down {words : Int} {os : Os} {a : List Int} (h : PlI words os a) (hw : 0 ≤ words) {l : List Int} (hl : l.Perm (thereL os os.length)) : PlI words os (downF os l 0 a) ∧ Pk os (downF os l 0 a) l 0 := by
  have hnd : l.Nodup := hl.nodup_iff.2 (rising_nodup (thereL_rising _ _))
  have hmem : ∀ y, y ∈ l ↔ Lives os y := fun y => by
    rw [hl.mem_iff, mem_thereL (Nat.le_refl _)]
    exact ⟨fun h => h.1, fun h => ⟨h, by have := h.lt; have := h.1; omega⟩⟩
  have hrng : ∀ y ∈ l, 0 ≤ y ∧ y < (a.length : Int) := fun y hy => by
    have := ((hmem y).1 hy).lt; have := ((hmem y).1 hy).1; rw [h.len]; omega
  have hp := downF_pk os l 0 a hnd hrng
  obtain ⟨h1, h2⟩ := hp.says
  have ht := h.tot hw
  rw [← totL_perm hl] at ht
  refine ⟨⟨by rw [downF_len]; exact h.len, fun i hi => (h2 i ((hmem i).2 hi)).1, fun i hi => by have := (h2 i ((hmem i).2 hi)).2; omega, fun i j hi hj hij => ?_⟩, hp⟩
  have hi' := (hmem i).2 hi
  have hj' := (hmem j).2 hj
  obtain ⟨p, hp1⟩ := List.getElem?_of_mem hi'
  obtain ⟨q, hq1⟩ := List.getElem?_of_mem hj'
  have hpl := (List.getElem?_eq_some_iff.1 hp1).1
  have hql := (List.getElem?_eq_some_iff.1 hq1).1
  have h3 := List.pairwise_iff_getElem.1 h1
  have ep := (List.getElem?_eq_some_iff.1 hp1).2
  have eq := (List.getElem?_eq_some_iff.1 hq1).2
  rcases Nat.lt_trichotomy p q with h4 | h4 | h4
  · left; have := h3 p q hpl hql h4; rw [ep, eq] at this; exact this
  · subst h4; rw [hp1] at hq1; exact absurd (Option.some.inj hq1) hij
  · right; have := h3 q p hql hpl h4; rw [ep, eq] at this; exact this
/-- Behind a clearing. -/
theorem killed_len (os : Os) (L : List Int) : (killed os L).length = os.length := kill_len _ _
theorem killed_get (os : Os) (L : List Int) (i : Nat) : (killed os L)[i]? = if (i : Int) ∈ L then os[i]? else if i < os.length then some none else none := by
  unfold killed
  rw [kill_get _ _ (fun x hx => by
    obtain ⟨h1, _⟩ := List.mem_filter.1 hx
    exact ((mem_thereL (Nat.le_refl _)).1 h1).1.1)]
  by_cases hL : (i : Int) ∈ L
  · rw [if_pos hL, if_neg]
    rintro ⟨h1, _⟩
    have := (List.mem_filter.1 h1).2
    simp [hL] at this
  · rw [if_neg hL]
    by_cases hi : i < os.length
    · rw [if_pos hi]
      by_cases hm : (i : Int) ∈ thereL os os.length
      · rw [if_pos ⟨List.mem_filter.2 ⟨hm, by simp [hL]⟩, hi⟩]
      · rw [if_neg (fun h => hm (List.mem_filter.1 h.1).1)]
        have : ¬ Lives os (i : Int) := fun h => hm ((mem_thereL (Nat.le_refl _)).2 ⟨h, by omega⟩)
        cases hc : os[i]? with
        | none => rw [List.getElem?_eq_none_iff] at hc; omega
        | some c =>
          cases c with
          | none => rfl
          | some l => exact absurd (lives_nat hc) this
    · rw [if_neg hi, if_neg (fun h => hi h.2), List.getElem?_eq_none (by omega)]
theorem killed_lives {os : Os} {L : List Int} {i : Int} : Lives (killed os L) i ↔ Lives os i ∧ i ∈ L := by
  constructor
  · rintro ⟨h0, l, hl⟩
    rw [killed_get, Int.toNat_of_nonneg h0] at hl
    split at hl
    · rename_i h; exact ⟨⟨h0, l, hl⟩, h⟩
    · split at hl <;> cases hl
  · rintro ⟨⟨h0, l, hl⟩, h⟩
    exact ⟨h0, l, by rw [killed_get, Int.toNat_of_nonneg h0, if_pos h]; exact hl⟩
theorem killed_some {os : Os} {L : List Int} {i : Nat} {l : List V} (h : (killed os L)[i]? = some (some l)) : os[i]? = some (some l) ∧ (i : Int) ∈ L := by
  rw [killed_get] at h
  split at h
  · rename_i hm; exact ⟨h, hm⟩
  · split at h <;> cases h
theorem killed_obj {os : Os} {L : List Int} {i : Int} (h0 : 0 ≤ i) (h : i ∈ L) : objAt (killed os L) i = objAt os i := by
  unfold objAt; rw [killed_get, Int.toNat_of_nonneg h0, if_pos h]
theorem PlI.kill {words : Int} {os : Os} {a : List Int} (h : PlI words os a) (L : List Int) : PlI words (killed os L) a := by
  have hs : ∀ i, Lives (killed os L) i → szO (killed os L) i = szO os i := fun i hi => by
    unfold szO; rw [killed_obj hi.1 (killed_lives.1 hi).2]
  refine ⟨by rw [killed_len]; exact h.len, fun i hi => h.lo i (killed_lives.1 hi).1, fun i hi => by rw [hs i hi]; exact h.hi i (killed_lives.1 hi).1, fun i j hi hj hij => by
    rw [hs i hi, hs j hj]; exact h.ap i j (killed_lives.1 hi).1 (killed_lives.1 hj).1 hij⟩
/-- What is always so. -/
structure InvX (words : Int) (s : Sm Rx) : Prop where
  fine : Fine s.regs s.os
  len : s.os.length ≤ 900
  led : ∀ i, RchM s.regs s.os i → Lives s.os i
  pl : PlI words s.os s.x.at_
  tm : 0 ≤ s.x.times ∧ s.x.times ≤ 100
theorem InvX.fld {words : Int} {s : Sm Rx} (h : InvX words s) {v u : V} (hv : v ∈ s.regs) (hr : v.ref = true) (hu : u ∈ objAt s.os v.n) : OkV s.os u := by
  have hl := (h.fine.regs v hv).1 hr
  exact ⟨fun hu2 => h.led _ (.step (.root hv hr) hl.obj hu hu2), h.fine.num _ _ hl.obj u hu⟩
theorem kill_rch {regs : List V} {os : Os} {L : List Int} (hl : ∀ i, RchM regs os i → i ∈ L ∧ 0 ≤ i) {i : Int} : RchM regs (killed os L) i ↔ RchM regs os i := by
  constructor
  · intro h
    refine h.least (fun v hv hr => .root hv hr) (fun j l hj hl' v hv hr => ?_)
    have := killed_some hl'
    exact .step hj this.1 hv hr
  · intro h
    have : RchM regs (killed os L) i ∧ RchM regs os i := by
      refine h.least (P := fun i => RchM regs (killed os L) i ∧ RchM regs os i) (fun v hv hr => ⟨.root hv hr, .root hv hr⟩) (fun j l hj hl' v hv hr => ⟨.step hj.1 ?_ hv hr, .step hj.2 hl' hv hr⟩)
      have h2 := hl j hj.2
      rw [killed_get, Int.toNat_of_nonneg h2.2, if_pos h2.1]; exact hl'
    exact this.1
theorem kill_kin {regs : List V} {os : Os} {L : List Int} (hl : ∀ i, RchM regs os i → i ∈ L ∧ 0 ≤ i) : Kin (⟨regs, killed os L, ()⟩ : Sm Unit) ⟨regs, os, ()⟩ :=
  ⟨rfl, killed_len _ _, fun i hi => by
    have h2 := hl i hi
    show (killed os L)[i.toNat]? = os[i.toNat]?
    rw [killed_get, Int.toNat_of_nonneg h2.2, if_pos h2.1]⟩
section
variable {words : Int} {s : Sm Rx}
theorem InvX.leads (h : InvX words s) (x : Int) : x ∈ foundL s.regs s.os ↔ RchM s.regs s.os x := foundL_leads h.fine (by have := h.len; omega) h.led x
theorem InvX.inL (h : InvX words s) (i : Int) (hi : RchM s.regs s.os i) : i ∈ foundL s.regs s.os ∧ 0 ≤ i := ⟨(h.leads i).2 hi, (h.led i hi).1⟩
theorem InvX.foundPerm (h : InvX words s) : (foundL s.regs s.os).Perm (thereL (killed s.os (foundL s.regs s.os)) (killed s.os (foundL s.regs s.os)).length) := by
  refine (List.perm_ext_iff_of_nodup (foundL_nodup h.fine (by have := h.len; omega)) (rising_nodup (thereL_rising _ _))).2 fun x => ?_
  rw [mem_thereL (Nat.le_refl _), killed_lives]
  constructor
  · intro hx
    have := h.led x ((h.leads x).1 hx)
    refine ⟨⟨this, hx⟩, ?_⟩
    have h1 := this.lt; have h2 := this.1
    rw [killed_len]; omega
  · rintro ⟨⟨_, h1⟩, _⟩; exact h1
theorem InvX.clearKin (h : InvX words s) (col : Int) : Kin (bare (clearS col s)) (bare s) := kill_kin h.inL
theorem InvX.clear_pl (h : InvX words s) (hw : 0 ≤ words) (col : Int) : PlI words (clearS col s).os (clearS col s).x.at_ := by
  have hk := h.pl.kill (foundL s.regs s.os)
  unfold clearS
  simp only
  split
  · exact (hk.down hw h.foundPerm).1
  · split
    · exact (hk.down hw (rowL_perm _ _)).1
    · exact hk
theorem InvX.clear (h : InvX words s) (hw : 0 ≤ words) (ht : s.x.times < 100) (col : Int) : InvX words (clearS col s) := by
  have hK := h.clearKin col
  have hlen : (clearS col s).os.length = s.os.length := killed_len _ _
  have hreg : (clearS col s).regs = s.regs := rfl
  have hsome : ∀ (i : Nat) (l : List V), (clearS col s).os[i]? = some (some l) → s.os[i]? = some (some l) := fun i l hi => (killed_some hi).1
  have hled : ∀ i, RchM (clearS col s).regs (clearS col s).os i → Lives (clearS col s).os i := by
    intro i hi
    have h1 := (hK.rch (i := i)).1 hi
    exact (hK.lives h1).2 (h.led i h1)
  refine ⟨⟨h.fine.regs8, ?_, fun i l hi => h.fine.flen i l (hsome i l hi), fun i l hi => h.fine.num i l (hsome i l hi), fun i l hi => by rw [hlen]; exact h.fine.rng i l (hsome i l hi)⟩, by rw [hlen]; exact h.len, hled, h.clear_pl hw col, by show 0 ≤ s.x.times + 1; have := h.tm; omega, by show s.x.times + 1 ≤ 100; omega⟩
  intro v hv
  exact ⟨fun hr => hled _ (.root hv hr), (h.fine.regs v hv).2⟩
theorem InvX.push (h : InvX words s) (hl : s.os.length < 900) {n : Nat} (hn : n ≤ 4) (sw : Bool) (hr : 0 ≤ roomF sw words (1 + n) s.os s.x.at_ (rowL s.os s.x.at_) 0) (r : Int) :
    InvX words ⟨s.regs.set r.toNat ⟨true, (s.os.length : Int)⟩, s.os ++ [some (zerosV n)], ⟨s.x.at_ ++ [roomF sw words (1 + n) s.os s.x.at_ (rowL s.os s.x.at_) 0], s.x.times⟩⟩ := by
  refine ⟨(h.fine.push hn).setReg r.toNat ⟨fun _ => lives_new _ _, fun h => by cases h⟩, by show (s.os ++ [_]).length ≤ 900; simp; omega, fun i hi => ?_, h.pl.push sw n hr, h.tm⟩
  rcases rch_new hi with h1 | rfl
  · exact (h.led i h1).push _
  · exact lives_new _ _
theorem InvX.step (h : InvX words s) (hw : 0 ≤ words) (hl : s.os.length < 900) (ht : s.x.times < 100) (col : Int) (d : Dd) : InvX words (rstep col words s d).1 := by
  unfold rstep
  split
  · exact h.clear hw ht col
  · refine step_keepR (rKd col words) (InvX words) s d h h.fine (fun v u => h.fld) (fun r v _ _ hv hr => ?_) (fun i k u hi hir hk hu hur => ?_) ?_ ?_
    · exact ⟨h.fine.setReg r.toNat hv, h.len, fun i hi => h.led i (rch_set hr hi), h.pl, h.tm⟩
    · refine ⟨h.fine.put hi k hu, ?_, fun j hj => (h.led j (rch_put hi hir hur hj)).put _, h.pl.put hi k u, h.tm⟩
      show (s.os.set _ _).length ≤ 900
      rw [List.length_set]; exact h.len
    · intro n hn he
      unfold rKd at he ⊢
      simp only at he ⊢
      split at he
      · cases he
      · rename_i h1
        rw [if_neg h1]
        split at he
        · cases he
        · rename_i h2
          rw [if_neg h2]; exact h.clear hw ht col
    · intro n o r hn _ _ he
      unfold rKd at he ⊢
      simp only at he ⊢
      split at he
      · rename_i h1
        rw [if_pos h1]
        have he := Option.some.inj he
        subst he
        exact h.push hl hn _ h1 r
      · rename_i h1
        rw [if_neg h1]
        split at he
        · rename_i h2
          rw [if_pos h2]
          have he := Option.some.inj he
          subst he
          have hc := h.clear hw ht col
          have hlen : (clearS col s).os.length = s.os.length := killed_len _ _
          have := hc.push (by rw [hlen]; exact hl) hn _ h2 r
          rw [hlen] at this
          exact this
        · cases he
theorem InvX.tells (h : InvX words s) (col : Int) (d : Dd) : Tells (rstep col words) (wB [8]) s d := by
  by_cases h8 : d.kind = 8
  · have e : (rstep col words s d).1 = clearS col s := by unfold rstep; rw [if_pos h8]
    refine ⟨fun _ => by rw [e]; exact h.clearKin col, fun hw => ?_⟩
    rw [h8] at hw; cases hw
  · have e : rstep col words s d = (rKd col words).step s d := by unfold rstep; rw [if_neg h8]
    have hW : wB [8] d.kind = false := by unfold wB; simp [h8]
    have hT := kd_tells (rKd col words) (wB [8]) s d h.fine hW (fun v u => h.fld) (fun r v _ _ _ _ => Kin.refl _) (fun i k u _ _ _ _ _ => Kin.refl _) ?_ ?_
    · refine ⟨fun ho => ?_, fun hw h6 => ?_⟩
      · rw [e] at ho ⊢; exact hT.own ho
      · rw [e] at h6 ⊢; exact hT.pure_ hw h6
    · intro n hn he
      unfold rKd at he ⊢
      simp only at he ⊢
      split at he
      · cases he
      · rename_i h1
        rw [if_neg h1]
        split at he
        · cases he
        · rename_i h2
          rw [if_neg h2]; exact h.clearKin col
    · intro n o r hn _ _ he
      unfold rKd at he ⊢
      simp only at he ⊢
      split at he
      · rename_i h1
        rw [if_pos h1]
        have he := Option.some.inj he
        subst he
        exact Kin.refl _
      · rename_i h1
        rw [if_neg h1]
        split at he
        · rename_i h2
          rw [if_pos h2]
          have he := Option.some.inj he
          subst he
          have hlen : (clearS col s).os.length = s.os.length := killed_len _ _
          have hk := kin_new (h.clearKin col) (fun i hi => h.led i hi) n r
          have e1 : ((bare (clearS col s)).os.length : Int) = (s.os.length : Int) := by show ((clearS col s).os.length : Int) = _; rw [hlen]
          rw [e1] at hk
          exact hk
        · cases he
theorem InvX.step_len (h : InvX words s) (col : Int) (d : Dd) : (rstep col words s d).1.os.length ≤ s.os.length + 1 := by
  have := (h.tells col d).len rfl
  rw [this]; split <;> omega
theorem InvX.step_times (h : InvX words s) (col : Int) (d : Dd) : s.x.times ≤ (rstep col words s d).1.x.times ∧ (rstep col words s d).1.x.times ≤ s.x.times + 1 := by
  unfold rstep
  split
  · exact ⟨by show _ ≤ s.x.times + 1; omega, Int.le_refl _⟩
  · have hid : s.x.times ≤ s.x.times ∧ s.x.times ≤ s.x.times + 1 := ⟨Int.le_refl _, by omega⟩
    refine step_keep (rKd col words) (fun t => s.x.times ≤ t.x.times ∧ t.x.times ≤ s.x.times + 1) s d hid h.fine (fun v u => h.fld) (fun _ _ _ _ _ => hid) (fun _ _ _ _ _ _ => hid) ?_ ?_
    · intro n hn he
      unfold rKd
      simp only
      split
      · exact hid
      · split
        · exact ⟨by show _ ≤ s.x.times + 1; omega, Int.le_refl _⟩
        · exact ⟨by show _ ≤ s.x.times + 1; omega, Int.le_refl _⟩
    · intro n o r hn _ _ he
      unfold rKd Kd.set
      simp only
      split
      · exact hid
      · split
        · exact ⟨by show _ ≤ s.x.times + 1; omega, Int.le_refl _⟩
        · exact ⟨by show _ ≤ s.x.times + 1; omega, Int.le_refl _⟩
end
def startX : Sm Rx := ⟨List.replicate 8 ⟨false, 0⟩, [], ⟨[], 0⟩⟩
theorem startX_inv (words : Int) : InvX words startX := by
  have hno : ∀ i, ¬ Lives startX.os i := fun i h => by have := h.lt; simp [startX] at this
  have hreg : ∀ v ∈ startX.regs, v = ⟨false, 0⟩ := fun v hv => List.eq_of_mem_replicate hv
  refine ⟨⟨rfl, fun v hv => ?_, fun i l hl => (by simp [startX] at hl), fun i l hl => (by simp [startX] at hl), fun i l hl => (by simp [startX] at hl)⟩, by simp [startX], fun i hi => ?_, ⟨rfl, fun i hi => absurd hi (hno i), fun i hi => absurd hi (hno i), fun i j hi => absurd hi (hno i)⟩, Int.le_refl _, by show (0 : Int) ≤ 100; decide⟩
  · rw [hreg v hv]; exact okv_zero _
  · refine hi.least (P := Lives startX.os) (fun v hv hr => ?_) (fun j l hj => absurd hj (hno j))
    rw [hreg v hv] at hr; cases hr
theorem runsX_inv {words : Int} (hw : 0 ≤ words) (col : Int) : ∀ (k : Nat) (ds : List Dd), k ≤ ds.length → k ≤ 100 → InvX words (runs (rstep col words) startX (ds.take k)).1 ∧ (runs (rstep col words) startX (ds.take k)).1.os.length ≤ k ∧ 0 ≤ (runs (rstep col words) startX (ds.take k)).1.x.times ∧ (runs (rstep col words) startX (ds.take k)).1.x.times ≤ k := by
  intro k
  induction k with
  | zero =>
    intro ds _ _
    rw [List.take_zero]
    exact ⟨startX_inv words, Nat.le_refl _, Int.le_refl _, Int.le_refl _⟩
  | succ k ih =>
    intro ds hk h100
    obtain ⟨h1, h2, h3, h4⟩ := ih ds (by omega) (by omega)
    obtain ⟨d, hd⟩ : ∃ d, ds[k]? = some d := ⟨ds[k]'(by omega), List.getElem?_eq_getElem (by omega)⟩
    rw [runs_take _ _ hd]
    have h5 := h1.step_times col d
    have h6 := h1.step_len col d
    exact ⟨h1.step hw (by omega) (by omega) col d, by show (rstep _ _ _ _).1.os.length ≤ k + 1; omega, by show 0 ≤ (rstep _ _ _ _).1.x.times; omega, by show (rstep _ _ _ _).1.x.times ≤ _; omega⟩
theorem runsX_times {words : Int} (hw : 0 ≤ words) (col : Int) {ds : List Dd} (hn : ds.length ≤ 100) (n : Nat) : ∀ j, n + j ≤ ds.length → (runs (rstep col words) startX (ds.take n)).1.x.times ≤ (runs (rstep col words) startX (ds.take (n + j))).1.x.times := by
  intro j
  induction j with
  | zero => intro _; exact Int.le_refl _
  | succ j ih =>
    intro hj
    obtain ⟨d, hd⟩ : ∃ d, ds[n + j]? = some d := ⟨ds[n + j]'(by omega), List.getElem?_eq_getElem (by omega)⟩
    rw [← Nat.add_assoc, runs_take _ _ hd]
    have h1 := ((runsX_inv hw col (n + j) ds (by omega) (by omega)).1.step_times col d).1
    exact Int.le_trans (ih (by omega)) h1
end Go.Proofs.Ytmmcjjklmcfegaa
