/- Who keeps both: meet, walked. -/
import Derived.Test.YtnpbdabboecpaaaD2
import Derived.Test.YtnpbdabboecpaaaD4
namespace Go.Proofs.Ytnpbdabboecpaaa.Dom
open Go.RowKit Go.Shelf Go.Proofs.Ytnpbdabboecpaaa

/-- The tree as it lies: its ranks, and who is up of whom. -/
structure TreeAt (D : Dg) (n : Nat) (rank up : List Int) : Prop where
  ok : D.Ok
  lt : ∀ x, D.P x → x < n
  rk : ∀ x, D.P x → rank[x.toNat]? = some ((D.R x : Nat) : Int)
  len : up.length = n
def rkN (D : Dg) (x : Int) : Nat := if x < 0 then 0 else D.R x + 1
theorem upAt_get {up : List Int} {i : Nat} (h : i < up.length) : up[i]? = some (upAt up (i : Int)) := by
  unfold upAt
  rw [Int.toNat_natCast, List.getD_eq_getElem?_getD, List.getElem?_eq_getElem h]; rfl

set_option maxRecDepth 100000 in
set_option maxHeartbeats 1000000 in
theorem meet_any (D : Dg) (B bt gR gU n cR cU : Nat) (vo : Value) (w0 w : World) (L : List Ent) (rank up : List Int) (hT : TreeAt D n rank up) (hs : St D (upAt up))
    (hM : Mem B w0 w L) (k0 k1 k2 : Nat) (h0 : L[k0]? = some (ebox bt #[vo, .slice (some ⟨gR, 0, none⟩) n cR, .slice (some ⟨gU, 0, none⟩) n cU] 53)) (h1 : L[k1]? = some (rowI 3 (.slice (some ⟨gR, 0, none⟩) n cR) rank)) (h2 : L[k2]? = some (rowI 3 (.slice (some ⟨gU, 0, none⟩) n cU) up))
    (a b : Int) (ha : a = -1 ∨ Rk D (upAt up) a) (hb : b = -1 ∨ Rk D (upAt up) b) :
    Calls Try.prog 51 #[.pointer (some ⟨bt, 0, none⟩), .int .i64 a, .int .i64 b] w fun e w' => ∃ m, e = .returned (.int .i64 m) ∧ MeetS D (upAt up) a b m ∧ Mem B w0 w' L := by
  have HT := Lib.hid hT
  have Hs := Lib.hid hs
  have H0 := Lib.hid h0
  have H1 := Lib.hid h1
  have H2 := Lib.hid h2
  have Ha := Lib.hid ha
  have Hb := Lib.hid hb
  clear hT hs h0 h1 h2 ha hb
  go_enter Try.func51, Try.ntmps51
  go_wp2
  go_loopw [1, 2] (fun s t wr => ∃ x y : Int, s = .int .i64 x ∧ t = .int .i64 y ∧ (x = -1 ∨ Rk D (upAt up) x) ∧ (y = -1 ∨ Rk D (upAt up) y) ∧ (∀ m, MeetS D (upAt up) x y m → MeetS D (upAt up) a b m) ∧ Mem B w0 wr L) (fun s t _ => rkN D (intOf s) + rkN D (intOf t))
  case atStart => exact ⟨a, b, rfl, rfl, Ha.out, Hb.out, fun _ h => h, hM⟩
  case round =>
    clear hM
    obtain ⟨x, y, rfl, rfl, hx, hy, hstep, hM⟩ := hrel
    have Hstep := Lib.hid hstep
    have HM := Lib.hid hM
    have Hx := Lib.hid hx
    have Hy := Lib.hid hy
    clear hstep hM hx hy
    by_cases hxy : x = y
    · subst hxy
      have Hm := Lib.hid (Hstep.out _ (meet_same Hx.out))
      go_wp2
      refine bodyPost_ret (v := .int .i64 x) (by simp [results, Try.results51, go_sem]) rfl ⟨x, rfl, Hm.out, HM.out⟩
    · have e1 : (x == y) = false := by simpa using hxy
      have e2 : (x != y) = true := by simpa using hxy
      by_cases hx0 : x < 0
      · have Hm := Lib.hid (Hstep.out _ (meet_none (.inl hx0)))
        go_wp2
        refine bodyPost_ret (v := .int .i64 (-1)) (by simp [results, Try.results51, go_sem]) rfl ⟨-1, rfl, Hm.out, HM.out⟩
      · by_cases hy0 : y < 0
        · have Hm := Lib.hid (Hstep.out _ (meet_none (.inr hy0)))
          go_wp2
          refine bodyPost_ret (v := .int .i64 (-1)) (by simp [results, Try.results51, go_sem]) rfl ⟨-1, rfl, Hm.out, HM.out⟩
        · obtain ⟨i, rfl⟩ : ∃ i : Nat, x = (i : Int) := ⟨x.toNat, by omega⟩
          obtain ⟨j, rfl⟩ : ∃ j : Nat, y = (j : Int) := ⟨y.toNat, by omega⟩
          have hxr : Rk D (upAt up) (i : Int) := Hx.out.resolve_left (by omega)
          have hyr : Rk D (upAt up) (j : Int) := Hy.out.resolve_left (by omega)
          have hin : i < n := by have := HT.out.lt _ hxr.1; omega
          have hjn : j < n := by have := HT.out.lt _ hyr.1; omega
          have hri := HT.out.rk _ hxr.1
          have hrj := HT.out.rk _ hyr.1
          rw [Int.toNat_natCast] at hri hrj
          obtain ⟨ri, hrie⟩ : ∃ ri : Nat, D.R (i : Int) = ri := ⟨_, rfl⟩
          obtain ⟨rj, hrje⟩ : ∃ rj : Nat, D.R (j : Int) = rj := ⟨_, rfl⟩
          rw [hrie] at hri
          rw [hrje] at hrj
          obtain ⟨ui, hui⟩ : ∃ ui : Int, upAt up (i : Int) = ui := ⟨_, rfl⟩
          obtain ⟨uj, huj⟩ : ∃ uj : Int, upAt up (j : Int) = uj := ⟨_, rfl⟩
          have hgi := upAt_get (up := up) (i := i) (by rw [HT.out.len]; exact hin)
          have hgj := upAt_get (up := up) (i := j) (by rw [HT.out.len]; exact hjn)
          rw [hui] at hgi
          rw [huj] at hgj
          have c1 : wr.cell? ⟨bt, 1, none⟩ = some (.slice (some ⟨gR, 0, none⟩) n cR) := by have := HM.out.cell k0 H0.out 1; simpa using this
          have c2 : wr.cell? ⟨bt, 2, none⟩ = some (.slice (some ⟨gU, 0, none⟩) n cU) := by have := HM.out.cell k0 H0.out 2; simpa using this
          have zb : bt < wr.heap.size := (HM.out.box k0 H0.out).2.1
          obtain ⟨c3, _⟩ := HM.out.intAt k1 H1.out hri
          obtain ⟨c4, _⟩ := HM.out.intAt k1 H1.out hrj
          obtain ⟨c5, _⟩ := HM.out.intAt k2 H2.out hgi
          obtain ⟨c6, _⟩ := HM.out.intAt k2 H2.out hgj
          have Hri := Lib.hid hrie
          have Hrj := Lib.hid hrje
          have Hui := Lib.hid hui
          have Huj := Lib.hid huj
          have Hxr := Lib.hid hxr
          have Hyr := Lib.hid hyr
          have Hxy := Lib.hid hxy
          clear hri hrj hgi hgj hrie hrje hui huj hxr hyr hxy
          by_cases hc : rj < ri
          · have hst := Hs.out _ Hxr.out
            rw [Hui.out] at hst
            have hlt : rkN D ui < rkN D (i : Int) := by
              unfold rkN
              rw [if_neg (by omega : ¬ (i : Int) < 0)]
              split
              · omega
              · rcases hst with h | ⟨_, h⟩
                · omega
                · omega
            have Hst := Lib.hid hst
            have Hlt := Lib.hid hlt
            have Hnext : Hid (∀ m, MeetS D (upAt up) ui (j : Int) m → MeetS D (upAt up) a b m) := Lib.hid (fun m hm => Hstep.out m (meet_left Hs.out Hyr.out (by rw [Hri.out, Hrj.out]; exact hc) (by rw [Hui.out]; exact hm) (by omega)))
            clear hst hlt
            go_wp2
            go_quiet (fail)
            go_wp2
            refine ⟨⟨ui, (j : Int), rfl, rfl, ?_, Hy.out, Hnext.out, HM.out.drewN _⟩, ?_⟩
            · rcases Hst.out with h | ⟨h, _⟩
              · exact .inl h
              · exact .inr h
            · have := Hlt.out
              simp only [intOf]
              omega
          · have hlt2 : ri < rj := by
              rcases Nat.lt_or_ge ri rj with h | h
              · exact h
              · exfalso
                have h3 : ri = rj := by omega
                exact Hxy.out (HT.out.ok.inj _ _ Hxr.out.1 Hyr.out.1 (by rw [Hri.out, Hrj.out, h3]))
            have hst := Hs.out _ Hyr.out
            rw [Huj.out] at hst
            have hlt : rkN D uj < rkN D (j : Int) := by
              unfold rkN
              rw [if_neg (by omega : ¬ (j : Int) < 0)]
              split
              · omega
              · rcases hst with h | ⟨_, h⟩
                · omega
                · omega
            have Hst := Lib.hid hst
            have Hlt := Lib.hid hlt
            have Hnext : Hid (∀ m, MeetS D (upAt up) (i : Int) uj m → MeetS D (upAt up) a b m) := Lib.hid (fun m hm => Hstep.out m (meet_right Hs.out Hxr.out (by rw [Hri.out, Hrj.out]; exact hlt2) (by rw [Huj.out]; exact hm) (by omega)))
            clear hst hlt
            go_wp2
            go_quiet (fail)
            go_wp2
            refine ⟨⟨(i : Int), uj, rfl, rfl, Hx.out, ?_, Hnext.out, HM.out.drewN _⟩, ?_⟩
            · rcases Hst.out with h | ⟨h, _⟩
              · exact .inl h
              · exact .inr h
            · have := Hlt.out
              simp only [intOf]
              omega
end Go.Proofs.Ytnpbdabboecpaaa.Dom
