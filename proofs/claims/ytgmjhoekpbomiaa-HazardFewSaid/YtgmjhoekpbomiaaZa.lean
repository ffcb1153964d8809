/- Hazard: the plain model. -/
import Derived.Test.YtgmjhoekpbomiaaTu
namespace Go.Proofs.Ytgmjhoekpbomiaa
open Go.RowKit

structure Deed where
  kind : Int
  who : Int
  item : Int
deriving DecidableEq, Inhabited
def encD (d : Deed) : List Value := [.int .i64 d.kind, .int .i64 d.who, .int .i64 d.item]
theorem encD_len (d : Deed) : (encD d).length = 3 := rfl
def encF (p : Int × Int) : List Value := [.int .i64 p.1, .int .i64 p.2]
theorem encF_len (p : Int × Int) : (encF p).length = 2 := rfl

/-! ### What is retired -/
def retiredTo (l : List Deed) (c : List Int) (kind : Int) (k : Nat) : List Int := ((l.zip c).take k).filterMap fun p => if p.1.kind = kind ∧ p.2 = 0 then some p.1.item else none
theorem retiredTo_succ (l : List Deed) (c : List Int) (kind : Int) (k : Nat) (d : Deed) (x : Int) (hd : l[k]? = some d) (hx : c[k]? = some x) :
    retiredTo l c kind (k + 1) = retiredTo l c kind k ++ if d.kind = kind ∧ x = 0 then [d.item] else [] := by
  unfold retiredTo
  have hz : (l.zip c)[k]? = some (d, x) := by rw [List.getElem?_zip_eq_some]; exact ⟨hd, hx⟩
  rw [List.take_add_one, List.filterMap_append, hz]
  simp
  split <;> simp_all
theorem retiredTo_le (l : List Deed) (c : List Int) (kind : Int) (k : Nat) : (retiredTo l c kind k).length ≤ k :=
  Nat.le_trans (List.length_filterMap_le _ _) (List.length_take_le _ _)
theorem retiredTo_more (l : List Deed) (c : List Int) (y : Int) (kind : Int) (k : Nat) (hk : k ≤ c.length) : retiredTo l (c ++ [y]) kind k = retiredTo l c kind k := by
  unfold retiredTo List.zip
  rw [List.take_zipWith, List.take_zipWith, List.take_append_of_le_length hk]

/-! ### The machine -/
structure HS where
  guards : List Int
  waits : List (List Int)
  gone : List Bool
  freed : List (Int × Int)
def hneeds (d : Deed) : Bool := decide (d.kind = 1 ∨ d.kind = 3)
def hcode (T : Nat) (gone : List Bool) (d : Deed) : Int :=
  if d.kind < 1 ∨ 4 < d.kind then 5
  else if d.who < 0 ∨ (T : Int) ≤ d.who ∨ (hneeds d = true ∧ (d.item < 0 ∨ 100 ≤ d.item)) then 2
  else if hneeds d = true ∧ gone.getD d.item.toNat false = true then 8 else 0
def hkept (gs ws : List Int) : List Int := ws.filter fun x => decide (x ∈ gs)
def hfreed (gs ws : List Int) (by_ : Int) : List (Int × Int) := (ws.filter fun x => !decide (x ∈ gs)).map fun x => (x, by_)
def hact (s : HS) (d : Deed) (by_ : Int) : HS :=
  if d.kind = 1 then { s with guards := s.guards.set d.who.toNat d.item }
  else if d.kind = 2 then { s with guards := s.guards.set d.who.toNat (-1) }
  else if d.kind = 3 then { s with gone := s.gone.set d.item.toNat true, waits := s.waits.set d.who.toNat (s.waits.getD d.who.toNat [] ++ [d.item]) }
  else { s with waits := s.waits.set d.who.toNat (hkept s.guards (s.waits.getD d.who.toNat [])), freed := s.freed ++ hfreed s.guards (s.waits.getD d.who.toNat []) by_ }
def hstep (T : Nat) (s : HS) (d : Deed) (by_ : Int) : HS := if hcode T s.gone d = 0 then hact s d by_ else s
def hstart (T : Nat) : HS := ⟨List.replicate T (-1), List.replicate T [], List.replicate 100 false, []⟩
/-- The state ahead of deed k, and the codes. -/
def hrun (T : Nat) (l : List Deed) : Nat → HS × List Int
  | 0 => (hstart T, [])
  | k + 1 => let r := hrun T l k; match l[k]? with
    | some d => (hstep T r.1 d k, r.2 ++ [hcode T r.1.gone d])
    | none => r
theorem hrun_succ {T : Nat} {l : List Deed} {k : Nat} {d : Deed} (h : l[k]? = some d) : hrun T l (k + 1) = (hstep T (hrun T l k).1 d k, (hrun T l k).2 ++ [hcode T (hrun T l k).1.gone d]) := by
  show (match l[k]? with | some d => _ | none => _) = _
  rw [h]
end Go.Proofs.Ytgmjhoekpbomiaa
