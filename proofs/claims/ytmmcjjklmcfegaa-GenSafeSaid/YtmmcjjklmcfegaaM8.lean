/- heap.Machine.Do at anything that is done, over any memory whose methods answer. -/
import Derived.Test.YtmmcjjklmcfegaaM6
import Derived.Test.YtmmcjjklmcfegaaM7
namespace Go.Proofs.Ytmmcjjklmcfegaa
open Go.RowKit Go.Shelf

def ddV (d : Dd) : Value := .agg #[.int .i64 d.kind, .int .i64 d.to_, .int .i64 d.frm, .int .i64 d.at_, .int .i64 d.n]
def otV (o : Ot) : Value := .agg #[.int .i64 o.code, .bool o.ref, .int .i64 o.n]
structure DdOk (d : Dd) : Prop where
  kind : i64ok d.kind
  to_ : i64ok d.to_
  frm : i64ok d.frm
  at_ : i64ok d.at_
  n : i64ok d.n
/-- A memory's methods answer as its kind says. -/
structure Face {X : Type} (K : Kd X) (Is : Os → X → List Ent → Prop) (Inv : Sm X → Prop) (B : Nat) (w0 : World) (bx : Nat) (mv : Value) : Prop where
  fine : ∀ s, Inv s → Fine s.regs s.os
  fld : ∀ s v u, Inv s → v ∈ s.regs → v.ref = true → u ∈ objAt s.os v.n → OkV s.os u
  newR : ∀ s n, (K.new s n).1.regs = s.regs
  putR : ∀ s i k u, (K.put s i k u).regs = s.regs
  holdR : ∀ s r u, (K.hold s r u).regs = s.regs
  len : ∀ s L i, Inv s → Is s.os s.x L → Lives s.os i → MethAt mv "Len" (HoldsM B w0 bx s.regs mv L) #[.int .i64 i] fun _ w e w' => e = .returned (.int .i64 ((objAt s.os i).length : Int)) ∧ w' = w
  get : ∀ s L i (k : Nat) u, Inv s → Is s.os s.x L → Lives s.os i → (objAt s.os i)[k]? = some u → MethAt mv "Get" (HoldsM B w0 bx s.regs mv L) #[.int .i64 i, .int .i64 k] fun _ w e w' => e = .returned (.agg #[.bool u.ref, .int .i64 u.n]) ∧ Below w.heap.size w w'
  put : ∀ s L i (k : Nat) u, Inv s → Is s.os s.x L → Lives s.os i → k < (objAt s.os i).length → OkV s.os u → MethAt mv "Put" (HoldsM B w0 bx s.regs mv L) #[.int .i64 i, .int .i64 k, .agg #[.bool u.ref, .int .i64 u.n]]
    fun T _ e w' => e = .returned (.tuple #[]) ∧ ∃ L', Is (K.put s i k u).os (K.put s i k u).x L' ∧ HoldsM B w0 bx s.regs mv L' T w'
  hold : ∀ s L (r : Nat) u, Inv s → Is s.os s.x L → r < 8 → OkV s.os u → MethAt mv "Hold" (HoldsM B w0 bx s.regs mv L) #[.int .i64 r, .agg #[.bool u.ref, .int .i64 u.n]]
    fun T _ e w' => e = .returned (.tuple #[]) ∧ ∃ L', Is (K.hold s r u).os (K.hold s r u).x L' ∧ HoldsM B w0 bx s.regs mv L' T w'
  newN : ∀ s L (n : Nat), Inv s → Is s.os s.x L → n ≤ 4 → (K.new s n).2 = none → MethAt mv "New" (HoldsM B w0 bx s.regs mv L) #[.int .i64 n]
    fun T _ e w' => e = .returned (.tuple #[.int .i64 0, .int .i64 6]) ∧ ∃ L', Is (K.new s n).1.os (K.new s n).1.x L' ∧ HoldsM B w0 bx s.regs mv L' T w'
  newS : ∀ s L (n : Nat) o, Inv s → Is s.os s.x L → n ≤ 4 → (K.new s n).2 = some o → MethAt mv "New" (HoldsM B w0 bx s.regs mv L) #[.int .i64 n]
    fun T _ e w' => e = .returned (.tuple #[.int .i64 o, .int .i64 0]) ∧ ∃ L', Is (K.new s n).1.os (K.new s n).1.x L' ∧ HoldsM B w0 bx s.regs mv L' T w'
  newH : ∀ s (n : Nat) o L1 (r : Nat), Inv s → n ≤ 4 → (K.new s n).2 = some o → Is (K.new s n).1.os (K.new s n).1.x L1 → r < 8 → MethAt mv "Hold" (HoldsM B w0 bx s.regs mv L1) #[.int .i64 r, .agg #[.bool true, .int .i64 o]]
    fun T _ e w' => e = .returned (.tuple #[]) ∧ ∃ L', Is (K.hold (K.new s n).1 r ⟨true, o⟩).os (K.hold (K.new s n).1 r ⟨true, o⟩).x L' ∧ HoldsM B w0 bx s.regs mv L' T w'
theorem i64_small {r : Nat} (h : r < 8) : i64ok (r : Int) := ⟨by omega, by omega⟩
section
variable {X : Type} {K : Kd X} {Is : Os → X → List Ent → Prop} {Inv : Sm X → Prop} {B : Nat} {w0 : World} {bx : Nat} {mv : Value}
def DoSays (K : Kd X) (Is : Os → X → List Ent → Prop) (B : Nat) (w0 : World) (bx : Nat) (mv : Value) (s : Sm X) (d : Dd) (T : List Ent) (e : Ending) (w' : World) : Prop :=
  e = .returned (otV (K.step s d).2) ∧ ∃ L', Is (K.step s d).1.os (K.step s d).1.x L' ∧ HoldsM B w0 bx (K.step s d).1.regs mv L' T w'
theorem do_any (F : Face K Is Inv B w0 bx mv) (s : Sm X) (hI : Inv s) (d : Dd) (hd : DdOk d) (L T : List Ent) (hIs : Is s.os s.x L) (w : World) (hM : HoldsM B w0 bx s.regs mv L T w) :
    Calls Try.prog 39 #[.pointer (some ⟨bx, 0, none⟩), ddV d] w (DoSays K Is B w0 bx mv s d T) := by
  obtain ⟨k, t, f, a, n⟩ := d
  have hF := F.fine s hI
  have ht := hd.to_
  have hf := hd.frm
  simp only at ht hf
  unfold DoSays ddV otV
  simp only
  by_cases hw : wrongC ⟨k, t, f, a, n⟩ = 0
  · obtain ⟨h1, h7, hto, hfr, hn1, hn2⟩ := wrong_zero hw
    simp only at h1 h7 hto hfr hn1 hn2
    have hst : ∀ (b : Sm X × Ot), b = K.step s ⟨k, t, f, a, n⟩ → K.step s ⟨k, t, f, a, n⟩ = b := fun _ h => h.symm
    have e0 : ¬ (wrongC ⟨k, t, f, a, n⟩ ≠ 0) := fun h => h hw
    by_cases k1 : k = 1
    · subst k1
      obtain ⟨ht0, ht8⟩ := hto (by omega)
      obtain ⟨r, rfl⟩ : ∃ r : Nat, t = (r : Int) := ⟨t.toNat, by omega⟩
      obtain ⟨hn0, hn4⟩ := hn1 rfl
      obtain ⟨m, rfl⟩ : ∃ m : Nat, n = (m : Int) := ⟨n.toNat, by omega⟩
      have hr : r < 8 := by omega
      cases hnew : (K.new s m).2 with
      | none =>
        have hs : K.step s ⟨1, r, f, a, m⟩ = ((K.new s m).1, ⟨6, false, 0⟩) := by
          unfold Kd.step
          rw [if_neg e0, if_pos rfl]
          simp only [Int.toNat_natCast]
          generalize hq : K.new s m = q at hnew ⊢
          obtain ⟨q1, q2⟩ := q
          simp only at hnew
          subst hnew; rfl
        rw [hs]
        simp only [F.newR]
        exact do_new_none Is bx s.regs mv _ _ r f a m ht hf hw B w0 w L T hF.regs8 hM (F.newN s L m hI hIs (by omega) hnew)
      | some o =>
        have hs : K.step s ⟨1, r, f, a, m⟩ = (K.set (K.new s m).1 r ⟨true, o⟩, ⟨0, false, 0⟩) := by
          unfold Kd.step
          rw [if_neg e0, if_pos rfl]
          simp only [Int.toNat_natCast]
          generalize hq : K.new s m = q at hnew ⊢
          obtain ⟨q1, q2⟩ := q
          simp only at hnew
          subst hnew; rfl
        rw [hs]
        unfold Kd.set
        simp only [Int.toNat_natCast, F.holdR, F.newR]
        exact do_new Is bx s.regs mv _ _ _ _ r f a o m ht hf hr hw B w0 w L T hF.regs8 hM (F.newS s L m o hI hIs (by omega) hnew) (fun L1 h => F.newH s m o L1 r hI (by omega) hnew h hr)
    by_cases k2 : k = 2
    · subst k2
      obtain ⟨ht0, ht8⟩ := hto (by omega)
      obtain ⟨r, rfl⟩ : ∃ r : Nat, t = (r : Int) := ⟨t.toNat, by omega⟩
      have hr : r < 8 := by omega
      have hs : K.step s ⟨2, r, f, a, n⟩ = (K.set s r ⟨false, n⟩, ⟨0, false, 0⟩) := by
        unfold Kd.step; rw [if_neg e0, if_neg (by simp), if_pos rfl]
      rw [hs]
      unfold Kd.set
      simp only [Int.toNat_natCast, F.holdR]
      exact do_int Is bx s.regs mv _ _ r f a n ht hf hr hw B w0 w L T hF.regs8 hM (F.hold s L r ⟨false, n⟩ hI hIs hr ⟨(fun h => by cases h), fun _ => hn2 rfl⟩)
    obtain ⟨hf0, hf8⟩ := hfr (by omega)
    obtain ⟨q, rfl⟩ : ∃ q : Nat, f = (q : Int) := ⟨f.toNat, by omega⟩
    have hq : q < 8 := by omega
    have hvq := reg_get (l := s.regs) hf0 (by rw [hF.regs8]; exact hf8)
    have hokq := hF.reg hf0 hf8
    obtain ⟨v, hv⟩ : ∃ v, reg s.regs (q : Int) = v := ⟨_, rfl⟩
    rw [hv] at hvq hokq
    rw [Int.toNat_natCast] at hvq
    by_cases k7 : k = 7
    · subst k7
      obtain ⟨vr, vn⟩ := v
      cases vr with
      | false =>
        have hs : K.step s ⟨7, t, q, a, n⟩ = (s, ⟨0, false, vn⟩) := by
          unfold Kd.step; rw [if_neg e0, if_neg (by simp), if_neg (by simp), if_neg (by simp), if_neg (by simp), if_neg (by simp), if_neg (by simp)]
          simp only [hv]; rfl
        rw [hs]
        refine (do_tell_num bx s.regs mv t q a n ht hf hq vn hvq hw B w0 w L T hM).mono ?_
        rintro e w' ⟨rfl, h⟩
        exact ⟨rfl, L, hIs, h⟩
      | true =>
        have hs : K.step s ⟨7, t, q, a, n⟩ = (s, ⟨0, true, ((objAt s.os vn).length : Int)⟩) := by
          unfold Kd.step; rw [if_neg e0, if_neg (by simp), if_neg (by simp), if_neg (by simp), if_neg (by simp), if_neg (by simp), if_neg (by simp)]
          simp only [hv]; rfl
        rw [hs]
        refine (do_tell_ref bx s.regs mv t q a n ht hf hq vn hvq hw B w0 w L T hF.regs8 hM (objAt s.os vn).length (F.len s L vn hI hIs (hokq.1 rfl))).mono ?_
        rintro e w' ⟨rfl, h⟩
        exact ⟨rfl, L, hIs, h⟩
    obtain ⟨ht0, ht8⟩ := hto k7
    obtain ⟨r, rfl⟩ : ∃ r : Nat, t = (r : Int) := ⟨t.toNat, by omega⟩
    have hr : r < 8 := by omega
    have hvr := reg_get (l := s.regs) ht0 (by rw [hF.regs8]; exact ht8)
    have hokr := hF.reg ht0 ht8
    obtain ⟨u, hu⟩ : ∃ u, reg s.regs (r : Int) = u := ⟨_, rfl⟩
    rw [hu] at hvr hokr
    rw [Int.toNat_natCast] at hvr
    by_cases k3 : k = 3
    · subst k3
      have hs : K.step s ⟨3, r, q, a, n⟩ = (K.set s r v, ⟨0, false, 0⟩) := by
        unfold Kd.step; rw [if_neg e0, if_neg (by simp), if_neg (by simp), if_pos rfl]; simp only [hv]
      rw [hs]
      unfold Kd.set
      simp only [Int.toNat_natCast, F.holdR]
      exact do_move Is bx s.regs mv _ _ r q a n ht hf hr hq v hvq hw B w0 w L T hF.regs8 hM (F.hold s L r v hI hIs hr hokq)
    by_cases k6 : k = 6
    · subst k6
      have hs : K.step s ⟨6, r, q, a, n⟩ = (s, ⟨0, false, if u = v then 1 else 0⟩) := by
        unfold Kd.step; rw [if_neg e0, if_neg (by simp), if_neg (by simp), if_neg (by simp), if_neg (by simp), if_neg (by simp), if_pos rfl]; simp only [hv, hu]
      rw [hs]
      refine (do_same bx s.regs mv r q a n ht hf hr hq u v hvr hvq hw B w0 w L T hM).mono ?_
      rintro e w' ⟨rfl, h⟩
      exact ⟨rfl, L, hIs, h⟩
    by_cases k4 : k = 4
    · subst k4
      by_cases hfc : fieldC s.os u a = 0
      · obtain ⟨hur, ha0, hal⟩ := field_zero hfc
        obtain ⟨m, rfl⟩ : ∃ m : Nat, a = (m : Int) := ⟨a.toNat, by omega⟩
        have hs : K.step s ⟨4, r, q, m, n⟩ = (K.put s u.n m v, ⟨0, false, 0⟩) := by
          unfold Kd.step; rw [if_neg e0, if_neg (by simp), if_neg (by simp), if_neg (by simp), if_pos rfl]; simp only [hv, hu, hfc, Int.toNat_natCast]; rfl
        rw [hs]
        simp only [F.putR]
        exact do_put Is bx s.regs mv s.os _ _ r q m n ht hf hr hq u v hvr hvq hw hfc B w0 w L T hF.regs8 hM (fun h => F.len s L u.n hI hIs (hokr.1 h)) (F.put s L u.n m v hI hIs (hokr.1 hur) (by omega) hokq)
      · have hs : K.step s ⟨4, r, q, a, n⟩ = (s, ⟨fieldC s.os u a, false, 0⟩) := by
          unfold Kd.step; rw [if_neg e0, if_neg (by simp), if_neg (by simp), if_neg (by simp), if_pos rfl]; simp only [hu]; rw [if_pos hfc]
        rw [hs]
        refine (do_put_bad bx s.regs mv s.os r q a n ht hf hr u hvr hw _ rfl hfc B w0 w L T hF.regs8 hM (fun h => F.len s L u.n hI hIs (hokr.1 h))).mono ?_
        rintro e w' ⟨rfl, h⟩
        exact ⟨rfl, L, hIs, h⟩
    · obtain rfl : k = 5 := by omega
      by_cases hfc : fieldC s.os v a = 0
      · obtain ⟨hvr2, ha0, hal⟩ := field_zero hfc
        obtain ⟨m, rfl⟩ : ∃ m : Nat, a = (m : Int) := ⟨a.toNat, by omega⟩
        have hlt : m < (objAt s.os v.n).length := by omega
        have hx : (objAt s.os v.n)[m]? = some ((objAt s.os v.n).getD m ⟨false, 0⟩) := by rw [List.getD_eq_getElem?_getD, List.getElem?_eq_getElem hlt]; rfl
        have hlv := hokq.1 hvr2
        have hok : (OkV s.os ((objAt s.os v.n).getD m ⟨false, 0⟩)) := F.fld s v _ hI (List.mem_of_getElem? hvq) hvr2 (List.mem_of_getElem? hx)
        have hs : K.step s ⟨5, r, q, m, n⟩ = (K.set s r ((objAt s.os v.n).getD m ⟨false, 0⟩), ⟨0, false, 0⟩) := by
          unfold Kd.step; rw [if_neg e0, if_neg (by simp), if_neg (by simp), if_neg (by simp), if_neg (by simp), if_pos rfl]; simp only [hv, hfc, Int.toNat_natCast]; rfl
        rw [hs]
        unfold Kd.set
        simp only [Int.toNat_natCast, F.holdR]
        exact do_get Is bx s.regs mv s.os _ _ r q m n ht hf hr hq v _ hvq hw hfc B w0 w L T hF.regs8 hM (fun h => F.len s L v.n hI hIs (hokq.1 h)) (F.get s L v.n m _ hI hIs hlv hx) (F.hold s L r _ hI hIs hr hok)
      · have hs : K.step s ⟨5, r, q, a, n⟩ = (s, ⟨fieldC s.os v a, false, 0⟩) := by
          unfold Kd.step; rw [if_neg e0, if_neg (by simp), if_neg (by simp), if_neg (by simp), if_neg (by simp), if_pos rfl]; simp only [hv]; rw [if_pos hfc]
        rw [hs]
        refine (do_get_bad bx s.regs mv s.os r q a n ht hf hq v hvq hw _ rfl hfc B w0 w L T hF.regs8 hM (fun h => F.len s L v.n hI hIs (hokq.1 h))).mono ?_
        rintro e w' ⟨rfl, h⟩
        exact ⟨rfl, L, hIs, h⟩
  · have hs : K.step s ⟨k, t, f, a, n⟩ = (s, ⟨wrongC ⟨k, t, f, a, n⟩, false, 0⟩) := by unfold Kd.step; rw [if_pos hw]
    rw [hs]
    refine (do_wrong bx s.regs mv k t f a n _ ht hf hw rfl B w0 w L T hM).mono ?_
    rintro e w' ⟨rfl, h⟩
    exact ⟨rfl, L, hIs, h⟩
end
end Go.Proofs.Ytmmcjjklmcfegaa
