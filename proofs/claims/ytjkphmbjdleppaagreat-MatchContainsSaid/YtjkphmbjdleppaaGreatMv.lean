/- What reads on where a block that holds nothing but slices turns. No condition. -/
import Derived.Test.YtjkphmbjdleppaaGreatMa
import Derived.Test.YtjkphmbjdleppaaGreatVs
import Derived.Test.YtjkphmbjdleppaaGreatMr
import Derived.Test.YtjkphmbjdleppaaGreatVo
namespace Go.Proofs.YtjkphmbjdleppaaGreat
open Go Go.RowKit VC
set_option linter.unusedSimpArgs false
set_option linter.unusedVariables false

/-- The block O holds nothing but slices. -/
structure SlB (w : World) (O : Nat) : Prop where
  ex : ∃ cs t fr, w.heap[O]? = some (.cells cs t fr) ∧ ∀ u ∈ cs.toList, ∃ a n c, u = Value.slice a n c
theorem SlB.no {w : World} {O : Nat} (h : SlB w O) {a : Addr} {k : IntKind} {z : Int} (hc : w.cell? a = some (.int k z)) : a.block ≠ O := by
  intro e
  obtain ⟨cs, t, fr, h1, h2⟩ := h.ex
  unfold World.cell? at hc
  rw [e, h1] at hc
  simp only at hc
  split at hc
  · cases hc
  · obtain ⟨x, n, c, e2⟩ := h2 (.int k z) (by
      obtain ⟨hj, he⟩ := Array.getElem?_eq_some_iff.1 hc
      rw [← he]
      exact Array.mem_toList_iff.2 (Array.getElem_mem hj))
    cases e2
theorem SlI.skip {w w' : World} {O : Nat} {v : Value} {xs : List Int} (hO : SlB w O) (h : SlI w v xs) (hf : Fr (fun k => k = O) w w') : SlI w' v xs := by
  obtain ⟨a, c, rfl, h1, h2, h3, h4⟩ := h.ex
  cases xs with
  | nil => exact ⟨a, c, rfl, h1, h2, h3, fun j u hj => by simp at hj⟩
  | cons x r =>
    obtain ⟨b, rfl, hb⟩ := h4 0 (encI x) rfl
    have hne := hO.no hb
    rw [add_block] at hne
    refine ⟨some b, c, rfl, h1, h2, h3, fun j u hj => ?_⟩
    obtain ⟨b', e, hc⟩ := h4 j u hj
    cases e
    exact ⟨b, rfl, hf.cell hc (by rw [add_block]; exact hne)⟩
theorem SlA.skip {w w' : World} {O : Nat} {v : Value} {l : List (Int × List Int)} (hO : SlB w O) (h : SlA w v l) (hf : Fr (fun k => k = O) w w') : SlA w' v l := by
  obtain ⟨a, c, rfl, h1, h2, h3, h4⟩ := h.ex
  refine ⟨a, c, rfl, h1, h2, h3, fun i hi => ?_⟩
  obtain ⟨b, cs, e1, e2, e3, u, rfl, hu⟩ := h4 i hi
  have hne := hO.no (e3 0 _ rfl)
  rw [add_block] at hne
  exact ⟨b, _, e1, e2, fun t y ht => hf.cell (e3 t y ht) (by rw [add_block]; exact hne), u, rfl, SlI.skip hO hu hf⟩
end Go.Proofs.YtjkphmbjdleppaaGreat

/- Contracts: the facts that matches use. No condition. -/
namespace Go.Proofs.YtjkphmbjdleppaaGreat
open Go Go.RowKit VC
set_option linter.unusedSimpArgs false
set_option linter.unusedVariables false

/-- A slice of facts, as an element. -/
def repF (w : World) (cs : List Value) (l : List Atm) : Prop := ∃ v, cs = [v] ∧ SlA w v l
theorem repF_mono : Mono repF := fun w w' cs x hg ⟨v, h1, h2⟩ => ⟨v, h1, h2.gr hg⟩
abbrev SlF (w : World) (v : Value) (L : List (List Atm)) : Prop := SlX 1 repF w v L
theorem SlF.gr {w w' : World} {v : Value} {L : List (List Atm)} (h : SlF w v L) (hf : Grow w w') : SlF w' v L := h.grow repF_mono hf
theorem SlF.rd1 {w : World} {v : Value} {L : List (List Atm)} (h : SlF w v L) {i : Nat} {j : Int} (hj : j = (i : Int)) (hi : i < L.length) {K : Value → Prop} (hk : ∀ u, SlA w u L[i] → K u) :
    ∃ (a : Addr) (m c : Nat), v = .slice (some a) m c ∧ ((0 : Int) ≤ j ∧ j < (m : Int)) ∧ ∃ u : Value, w.cell? (a.add (Int.toNat j * 1)) = some u ∧ K u := by
  obtain ⟨a, m, c, e, hb, cs, hl, hcs, u, rfl, hu⟩ := h.rd hj hi (K := fun cs => ∃ u, cs = [u] ∧ SlA w u L[i]) fun cs _ hr => hr
  have := hcs 0 u rfl
  rw [add_add, Nat.add_zero] at this
  exact ⟨a, m, c, e, hb, u, this, hk u hu⟩
end Go.Proofs.YtjkphmbjdleppaaGreat

/- Contracts: the reference's facts that matches use; equal lists of facts. No condition. -/
namespace Go.Proofs.YtjkphmbjdleppaaGreat
open Go Go.RowKit VC
set_option linter.unusedSimpArgs false
set_option linter.unusedVariables false

/-! ## Equal lists of facts -/
theorem same1_c {w : World} {r s : Int} {t u : Value} {xs ys : List Int} (ht : SlI w t xs) (hu : SlI w u ys) : Calls Tryz.prog 27 #[.agg #[.int .i64 r, t], .agg #[.int .i64 s, u]] w (Ret w (.bool (decide (((r, xs) : Atm) = (s, ys))))) := by
  refine f27_calls _ _ ?_
  refine ⟨_, rfl, fun w1 hw1 => ⟨_, rfl, fun w3 hw3 => ?_⟩⟩
  have g1 := alloc_grow hw1
  have g3 := alloc_grow hw3
  have g03 := g1.trans g3
  refine ⟨r, g3.cell (boxc hw1 0 _ rfl), s, boxc hw3 0 _ rfl, condD (fun h => ?_) fun h => ⟨?_, g03⟩⟩
  · refine ⟨t, g3.cell (boxc hw1 1 _ rfl), u, boxc hw3 1 _ rfl, (equal_c (ht.grow g03) (hu.grow g03)).mono ?_⟩
    rintro e w2 ⟨rfl, g2⟩
    refine ⟨_, rfl, ?_, g03.trans g2⟩
    congr 2
    rw [decide_eq_decide, Prod.mk.injEq]
    exact ⟨fun e => ⟨h, e⟩, fun e => e.2⟩
  · congr 2
    symm
    rw [decide_eq_false_iff_not, Prod.mk.injEq]
    exact fun e => h e.1
theorem same_c {w : World} {u v : Value} {L M : List Atm} (hx : SlA w u L) (hy : SlA w v M) : Calls Tryz.prog 12 #[u, v] w (Ret w (.bool (decide (L = M)))) := by
  refine f12_calls _ _ ?_
  have main : Calls Tryz.prog 26 #[u, v, .func (.func 27) #[] #[]] w (Ret w (.bool (decide (L = M)))) := by
    refine f26_calls _ _ _ ?_
    have h1 := SlX.len_le hx
    have h2 := SlX.len_le hy
    refine SlX.ln hx (SlX.ln hy (condP_i (fun h => ?_) fun h => ?_))
    · refine ⟨?_, Grow.refl w⟩
      have : L ≠ M := fun e => by subst e; simp at h
      rw [decide_eq_false this]
    have hl : L.length = M.length := by simp at h; omega
    refine SlX.ln hx ⟨fun t w' => ∃ k : Nat, t = k ∧ k ≤ L.length ∧ Grow w w' ∧ L.take k = M.take k, fun t _ => L.length - t.toNat, ⟨0, rfl, by omega, Grow.refl w, by simp⟩, ?_⟩
    rintro - t w1 ⟨k, rfl, hk, hw, htk⟩
    refine condD (fun hlt => ?_) (fun hge => ?_)
    · have hkl : k < L.length := by omega
      have hkm : k < M.length := by omega
      refine SlX.loc (hx.gr hw) rfl hkl rfl fun w20 a g20 s20 ha c0 c1 => ?_
      have hw20 := hw.trans g20
      refine SlX.loc (hy.gr hw20) rfl hkm rfl fun w27 c g27 s27 hc d0 d1 => ?_
      refine ⟨[_, _], rfl, two (g27.cell c0) (g27.cell c1), [_, _], rfl, two d0 d1, _, _, _, rfl, by kernel_rfl, ?_⟩
      rw [app2]
      refine (same1_c (r := L[k].1) (s := M[k].1) (ha.grow g27) hc).mono ?_
      rintro e w2 ⟨rfl, g2⟩
      have hw2 := (hw20.trans g27).trans g2
      refine ⟨_, rfl, condP_i (fun h => ?_) fun h => ?_⟩
      · have h : ¬ L[k] = M[k] := by rw [Bool.not_eq_true'] at h; exact of_decide_eq_false h
        refine ⟨?_, hw2⟩
        have : L ≠ M := fun e => h (by subst e; rfl)
        rw [decide_eq_false this]
      · have he : L[k] = M[k] := by rw [Bool.not_eq_false'] at h; exact of_decide_eq_true h
        refine ⟨by unfold inR; omega, ⟨k + 1, by omega, by omega, hw2, ?_⟩, by dsimp only; omega⟩
        rw [List.take_succ_eq_append_getElem hkl, List.take_succ_eq_append_getElem hkm, htk, he]
    · refine ⟨?_, hw⟩
      have : k = L.length := by omega
      subst this
      rw [List.take_length, hl, List.take_length] at htk
      rw [decide_eq_true htk]
  refine main.mono ?_
  rintro e w' ⟨rfl, g⟩
  exact ⟨_, rfl, rfl, g⟩
/-! ## The reference -/
end Go.Proofs.YtjkphmbjdleppaaGreat
