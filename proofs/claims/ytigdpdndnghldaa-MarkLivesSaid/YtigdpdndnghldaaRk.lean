/- arena.Ref, walked; a row of words of the call's own, read and written. -/
import Derived.Test.YtigdpdndnghldaaAw
import Derived.Test.YtigdpdndnghldaaWords
namespace Go.Proofs.Ytigdpdndnghldaa
open Go.RowKit Go.Shelf

set_option maxHeartbeats 400000 in
theorem aref_ref (n : Int) (w : World) (h : 0 ≤ n) (h' : n < 512) (hh : n % 2 = 0) :
    Calls Try.prog 82 #[.int .u64 n] w fun e w' => e = .returned (.tuple #[.int .i64 (n / 2), .bool true]) ∧ w' = w := by
  have h1 : (bits BinOp.and IntKind.u64 n 1 == 0) = true := by rw [and1 n h (by omega)]; simp [hh]
  clear hh
  go_enter Try.func82, Try.ntmps82
  go_wp2
  go_ret2
  exact ⟨rfl, rfl⟩
set_option maxHeartbeats 400000 in
theorem aref_int (n : Int) (w : World) (h : 0 ≤ n) (h' : n < 18446744073709551616) (hh : n % 2 = 1) :
    Calls Try.prog 82 #[.int .u64 n] w fun e w' => e = .returned (.tuple #[.int .i64 (n / 2), .bool false]) ∧ w' = w := by
  have h1 : (bits BinOp.and IntKind.u64 n 1 == 0) = false := by rw [and1 n h (by omega)]; simp [hh]
  clear hh
  go_enter Try.func82, Try.ntmps82
  go_wp2
  go_ret2
  exact ⟨rfl, rfl⟩
theorem own_row {B : Nat} {w : World} {e : TypeId} {sz n : Nat} {v : Value} {xs : List Value} (h : w.ownsRow B e sz v n xs) : ∃ a c, v = .slice a n c := by
  rcases h.2 with ⟨rfl, h0⟩ | ⟨g, cap, cur, rfl, _⟩
  · exact ⟨_, _, by rw [h0]⟩
  · exact ⟨_, _, rfl⟩
theorem Mem.wordsAt {B : Nat} {w0 w : World} {L : List Ent} (h : Mem B w0 w L) (k : Nat) {e : TypeId} {v : Value} {l : List Int} (hk : L[k]? = some (rowW e v l)) {j : Nat} {x : Int} (hj : l[j]? = some x) :
    ∃ g cap, v = .slice (some ⟨g, 0, none⟩) l.length cap ∧ g < w.heap.size ∧ w.cell? ⟨g, j, none⟩ = some (.int .u64 x) ∧ w.frozen? ⟨g, j, none⟩ = false := by
  have hr := h.ownW k hk
  have hjl := (List.getElem?_eq_some_iff.1 hj).1
  rcases hr.2 with ⟨_, h0⟩ | ⟨g, cap, cur, rfl, hB, hg, _⟩
  · omega
  · refine ⟨g, cap, rfl, (Array.getElem?_eq_some_iff.1 hg).1, ?_, hr.frozenAt j⟩
    rw [hr.cellAt j (by omega)]
    simp [hj]
theorem Mem.setW {B : Nat} {w0 w : World} {L : List Ent} (h : Mem B w0 w L) (k : Nat) {e : TypeId} {b m cap : Nat} {l : List Int} (hk : L[k]? = some (rowW e (.slice (some ⟨b, 0, none⟩) m cap) l)) (hm : l.length = m) (j : Nat) (x : Int) :
    Mem B w0 (w.setCell ⟨b, j, none⟩ (.int .u64 x)) (L.set k (rowW e (.slice (some ⟨b, 0, none⟩) m cap) (l.set j x))) := by
  subst hm
  exact (h.setRow k hk j (.int .u64 x)).cast (by simp [rowW, List.map_set])
end Go.Proofs.Ytigdpdndnghldaa
