/- The statement ChordalQueries, as a contract. The table of bits is laid (Tab). -/
import Derived.Test.YtleiddajojgmmaaDoorUh
import Derived.Test.YtleiddajojgmmaaDoorTb
import Derived.Test.YtleiddajojgmmaaDoorGa
import Derived.Test.YtleiddajojgmmaaDoorGqueries
namespace Go.Proofs.YtleiddajojgmmaaDoor
open Go Go.RowKit VC
set_option linter.unusedSimpArgs false
set_option linter.unusedVariables false

theorem equalG_c {w : World} {u v : Value} {xs ys : List Int} (hx : SlI w u xs) (hy : SlI w v ys) : Calls Tryd.prog 8 #[u, v] w (Ret w (.bool (decide (xs = ys)))) := by
  refine f8_calls _ _ ?_
  have h1 := hx.len_le
  have h2 := hy.len_le
  refine hx.ln (hy.ln (condP_i (fun h => ?_) fun h => ?_))
  · refine ⟨?_, Grow.refl w⟩
    have : xs ≠ ys := fun e => by subst e; simp at h
    simp [this]
  · have hl : xs.length = ys.length := by simp at h; omega
    refine hx.ln ⟨fun t w' => ∃ k : Nat, t = k ∧ k ≤ xs.length ∧ Grow w w' ∧ xs.take k = ys.take k, fun t _ => xs.length - t.toNat, ⟨0, rfl, by omega, Grow.refl w, by simp⟩, ?_⟩
    rintro - t w1 ⟨k, rfl, hk, hw, htk⟩
    refine condD (fun hlt => ?_) (fun hge => ?_)
    · have hkl : k < xs.length := by omega
      refine (hx.grow hw).rd rfl hkl ((hy.grow hw).rd rfl (by omega) fun m => condP_i (fun h => ?_) fun h => ?_)
      · refine ⟨?_, hw.dr m⟩
        have : xs ≠ ys := fun e => by subst e; simp at h
        simp [this]
      · have he : xs[k] = ys[k] := by simpa using h
        refine ⟨by unfold inR; omega, ⟨k + 1, by omega, by omega, hw.dr m, ?_⟩, by dsimp only; omega⟩
        rw [List.take_succ_eq_append_getElem hkl, List.take_succ_eq_append_getElem (by omega), htk, he]
    · refine ⟨?_, hw⟩
      have : k = xs.length := by omega
      subst this
      rw [List.take_length, hl, List.take_length] at htk
      simp [htk]
theorem chordalQueries_c {w : World} {hv bv : Value} {h : List Int} {b : List Atm} (sh : SlI w hv h) (sb : SlA w bv b) (hT : Tab w) :
    Calls Tryd.prog 3 #[.agg #[hv, bv]] w (Ret w (.bool true)) := by
  refine f3_calls _ ⟨_, rfl, fun w1 hw1 => ?_⟩
  have g1 := alloc_grow hw1
  have hQ := RecV.new hw1
  refine ⟨[_, _], rfl, hQ.all, (ofS_c (sh.grow g1) (sb.gr g1)).mono ?_⟩
  rintro e w4 ⟨ha, ba, rfl, sa, ta, g4⟩
  refine ⟨_, rfl, (fromQ_c sa ta).mono ?_⟩
  rw [okQ_tr]
  rintro e w7 ⟨hP, g7⟩
  have g17 := g4.trans g7
  have g07 := g1.trans g17
  have fin : ∀ {E : World} {u v : Value} {xs : List Int} {z : Int} {K : Ending → World → Prop}, Grow w E → SlI E u xs → SlI E v xs → Calls Tryd.prog 8 #[u, v] E fun e w' => ∃ t : Bool, e = .returned (.bool t) ∧ condP t (condP (decide (z = z)) (Calls Tryd.prog 9 #[] w' fun e w'' => ∃ t : Bool, e = .returned (.bool t) ∧ Ret w (.bool true) (.returned (.bool t)) w'') (Ret w (.bool true) (.returned (.bool false)) w')) (Ret w (.bool true) (.returned (.bool false)) w') := fun {E u v xs z K} gE hu hv => by
    refine (equalG_c hu hv).mono ?_
    rintro e w' ⟨rfl, g'⟩
    refine ⟨_, rfl, cT (decide_eq_true rfl) (cT (decide_eq_true rfl) ((awake_c6 (hT.grow (gE.trans g'))).mono ?_))⟩
    rintro e w'' ⟨rfl, g''⟩
    exact ⟨_, rfl, rfl, (gE.trans g').trans g''⟩
  have hR := refFromQ_c (sh.grow g07) (sb.gr g07)
  rcases hP with ⟨ok, hne, v1, G1, rfl, s1, i1⟩ | ⟨hno, rfl⟩
  · obtain ⟨eb, -⟩ := trB_of ok
    rw [eb] at hne i1
    refine ⟨_, _, rfl, [_, _], rfl, (hQ.grow g17).all, hR.mono ?_⟩
    rintro e w12 ⟨hP2, g12⟩
    rcases hP2 with ⟨-, -, v2, G2, rfl, s2, i2⟩ | ⟨hno, -⟩
    · obtain rfl := i1.uniq i2
      exact ⟨_, _, rfl, fin (K := fun _ _ => True) (g07.trans g12) (s1.grow g12) s2⟩
    · rcases hno with hno | hno
      · rw [ok] at hno; cases hno
      · exact absurd hno hne
  · refine ⟨_, _, rfl, [_, _], rfl, (hQ.grow g17).all, hR.mono ?_⟩
    rintro e w12 ⟨hP2, g12⟩
    rcases hP2 with ⟨ok, hne, -⟩ | ⟨-, rfl⟩
    · obtain ⟨eb, -⟩ := trB_of ok
      rw [eb] at hno
      rcases hno with hno | hno
      · rw [ok] at hno; cases hno
      · exact absurd hno hne
    · exact ⟨_, _, rfl, fin (K := fun _ _ => True) (g07.trans g12) (SlI.nil _) (SlI.nil _)⟩
end Go.Proofs.YtleiddajojgmmaaDoor
