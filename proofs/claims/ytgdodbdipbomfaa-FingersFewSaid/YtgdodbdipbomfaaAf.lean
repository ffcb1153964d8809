/- slices.Clone on words; the map of beginnings; arena.Check's closure, walked. -/
import Derived.Test.YtgdodbdipbomfaaAe
import Derived.Test.YtgdodbdipbomfaaBase3
import Derived.Test.YtgdodbdipbomfaaSh
import Derived.BigQuiet
import Derived.StillTailTactics
import Derived.Deep.RegionLaw
import Derived.Deep.DrawnRows
namespace Go.Proofs.Ytgdodbdipbomfaa
open Go.RowKit Go.Shelf Go.Maps

theorem Mem.fresh0W {B : Nat} {w0 w : World} {L : List Ent} (h : Mem B w0 w L)  : Mem B w0 (w.alloc (.cells #[] 60)) (rowW 60 (.slice (some ⟨w.heap.size, 0, none⟩) 0 0) [] :: L) := by
  refine (h.alloc_ _).cons _ ⟨?_, ?_⟩ ?_
  · intro b e; cases e; exact ⟨h.base, by simp⟩
  · exact ⟨rfl, .inr ⟨w.heap.size, 0, #[], rfl, heap_alloc_new w _, Nat.le_refl _, Nat.zero_le _, rfl, rfl⟩⟩
  · intro y hy b e e'
    cases e
    exact absurd (h.lt hy _ e').2 (Nat.lt_irrefl _)
theorem cloneW_any (v : Value) (l : List Int) (w : World) (h : IsW w v l) (hl : l.length ≤ 1000) :
    Calls Try.prog 72 #[v] w fun e w' => ∃ v', e = .returned v' ∧ Mem w.heap.size w w' [rowW 60 v' l] := by
  obtain ⟨a, cap, rfl, hm⟩ := h.slice
  cases a with
  | none =>
    have h0 : l = [] := by
      cases l with
      | nil => rfl
      | cons x l =>
        obtain ⟨b, off, cap2, hv, _⟩ := h.at (Below.refl _ _) (k := 0) (x := x) rfl
        cases hv
    subst h0
    refine (Try.slices_Clone_nil 0 cap w).mono ?_
    rintro e w' ⟨rfl, rfl⟩
    exact ⟨_, rfl, (Mem.start _).nilW _⟩
  | some ad =>
    have q22 : ∀ (w : World) (a : Option Addr) (n c n' c' : Nat), (binOp .eql 22 (.slice a n c) (.slice none n' c')).run Try.prog w = .ok (.bool a.isNone) w := fun w a n c n' c' => Lib.run_eql_slice_nil w _ _ a n c n' c' Try.underlying22
    have hM0 := Mem.fresh0W (Mem.start w)
    have HM0 := Lib.hid hM0
    have HU := Lib.hid (h.later hM0.below)
    clear h hM0
    go_enter Try.func72, Try.ntmps72
    go_wp2_with (at_builtin; refine Mem.wp_appWs elemWords rfl (.tmp 5) (.tmp 6) rfl HM0.out 0 rfl rfl rfl HU.out (by simp; omega) ?_; intro v5 w5 hM5 hs5 hk5)
    go_ret
    exact ⟨v5, rfl, hM5⟩

theorem keyed64 : Keyed Try.prog 2 := int_keyed Try.underlying2
/-- map[int64]int. -/
def mapB : MapT Try.prog Int where
  t := 114
  k := 2
  e := 3
  enc x := .int .i64 x
  lit x := .int .i64 x
  ok := i64ok
  zero := .int .i64 0
  keyed := keyed64
  under := Try.underlying114
  key x hx := keyOf_int_mk Try.underlying2 (WalkArith.wf_i64 hx)
  inj x y _ _ h := by cases h; rfl
  zeroOk w := by kernel_rfl

def lookF (l : List (Int × Value)) (y : Int) : Option Value := (l.reverse.find? (fun p => p.1 == y)).map (·.2)
theorem lookF_snoc (l : List (Int × Value)) (k : Int) (v : Value) : lookF (l ++ [(k, v)]) = fun u => if u = k then some v else lookF l u := by
  funext u
  unfold lookF
  rw [List.reverse_append]
  by_cases h : u = k
  · subst h; simp
  · have h2 : (k == u) = false := by simpa using fun e : k = u => h e.symm
    simp [h2, h]
theorem lookF_is (l : List (Int × Value)) (y : Int) : (lookF l y).isSome = true ↔ y ∈ l.map (·.1) := by
  unfold lookF
  rw [Option.isSome_map, List.find?_isSome]
  constructor
  · rintro ⟨p, hp, h⟩
    exact List.mem_map.2 ⟨p, List.mem_reverse.1 hp, by simpa using h⟩
  · intro h
    obtain ⟨p, hp, rfl⟩ := List.mem_map.1 h
    exact ⟨p, List.mem_reverse.2 hp, by simp⟩
/-- What begins where: with how many fields. -/
def entries : List Ob → Nat → List (Int × Value)
  | [], _ => []
  | o :: os, at_ => ((at_ : Int), .int .i64 (o.2.length : Int)) :: entries os (at_ + 1 + o.2.length)
theorem entries_snoc : ∀ (os : List Ob) (o : Ob) (at_ : Nat), entries (os ++ [o]) at_ = entries os at_ ++ [(((at_ + (flat os).length : Nat) : Int), .int .i64 (o.2.length : Int))]
  | [], o, at_ => by simp [entries, flat]
  | x :: os, o, at_ => by
    rw [List.cons_append, entries, entries_snoc os o, entries, List.cons_append, flat_cons, List.length_cons, List.length_append]
    congr 5
    omega
theorem entries_keys : ∀ os : List Ob, (entries os 0).map (·.1) = starts os := by
  suffices h : ∀ (n : Nat) (os : List Ob), os.length = n → (entries os 0).map (·.1) = starts os from fun os => h _ os rfl
  intro n
  induction n with
  | zero => intro os h; rw [List.eq_nil_of_length_eq_zero h]; rfl
  | succ n ih =>
    intro os h
    obtain ⟨pre, o, rfl⟩ : ∃ pre o, os = pre ++ [o] := by
      have hne : os ≠ [] := by rintro rfl; simp at h
      exact ⟨os.dropLast, os.getLast hne, (List.dropLast_concat_getLast hne).symm⟩
    rw [entries_snoc, List.map_append, ih pre (by simpa using h), starts_snoc]; simp
end Go.Proofs.Ytgdodbdipbomfaa
