/- Arrays of one's own, written in place. No condition. -/
import Derived.Test.YtddpjdlhgggbkaaTo
import Derived.Test.YtddpjdlhgggbkaaTp
namespace Go.Proofs.Ytddpjdlhgggbkaa
open Go Go.RowKit VC
set_option linter.unusedSimpArgs false
set_option linter.unusedVariables false

theorem ownPut {w : World} {B : Nat} {u : Value} {ys : List Int} (h : OwnI w B u ys) {i : Nat} {j : Int} (hj : j = (i : Int)) (hi : i < ys.length) {z : Int} {K : World → Prop} (hk : ∀ w', OwnI w' B u (ys.set i z) → Fr (fun b => u.ownBlock = some b) w w' → K w') :
    ∃ (a : Addr) (n c : Nat), u = Value.slice (some a) n c ∧ ((0 : Int) ≤ j ∧ j < (n : Int)) ∧ (∃ old, w.cell? (a.add (Int.toNat j * 1)) = some old) ∧ w.frozen? (a.add (Int.toNat j * 1)) = false ∧ ∀ w', w' = w.setCell (a.add (Int.toNat j * 1)) (.int .i64 z) → K w' := by
  subst hj
  have h2 := h.2
  rcases h2 with ⟨h1, h0⟩ | ⟨g, cap, cur, rfl, -⟩
  · omega
  · have e : Addr.add ⟨g, 0, none⟩ (Int.toNat (i : Int) * 1) = ⟨g, i, none⟩ := by rw [Int.toNat_natCast, Nat.mul_one, Addr.add0]
    refine ⟨_, _, _, rfl, ⟨by omega, by omega⟩, ?_⟩
    rw [e]
    refine ⟨(Own.wr h hi).1, (Own.wr h hi).2, fun w' hw' => hk w' ?_ ((set_fr hw').mono fun b _ hb => ?_)⟩
    · have h9 := Own.set h hi hw'
      have e : (ys.map VC.encI).set i (Value.int .i64 z) = (ys.set i z).map VC.encI := by
        rw [show Value.int .i64 z = VC.encI z from rfl, ← List.map_set]
      rw [e] at h9
      have : (ys.set i z).length = ys.length := List.length_set
      unfold OwnI
      rw [this]
      exact h9
    · have hb : b = g := hb
      rw [hb]
      rfl
theorem Nest.loc {P : Program} {w : World} {B : Nat} {v : Value} {ps : List (Value × Atm)} (h : Nest w B v ps) {i : Nat} {j : Int} (hj : j = (i : Int)) (hi : i < ps.length) {zs : Array Value} (hz : zs.size = 2) {t : TypeId} {K : World → Prop}
    (hk : ∀ w2, Grow w w2 → w.heap.size < w2.heap.size → w2.cell? (Addr.add ⟨w.heap.size, 0, none⟩ 0) = some (.int .i64 ps[i].2.1) → w2.cell? (Addr.add ⟨w.heap.size, 0, none⟩ 1) = some ps[i].1 → K w2) :
    ∃ (a : Addr) (m c : Nat), v = .slice (some a) m c ∧ ((0 : Int) ≤ j ∧ j < (m : Int)) ∧ ∃ cs : List Value, cs.length = 2 ∧ (∀ t u, cs[t]? = some u → w.cell? (Addr.add (a.add (Int.toNat j * 2)) t) = some u) ∧
      ∀ w1, w1 = w.alloc (.cells zs t) → ∃ cs' : Array Value, (Value.agg cs.toArray) = Value.agg cs' ∧ cs'.size = 2 ∧ ∃ w2 : World, (storeCells ⟨w.heap.size, 0, none⟩ cs'.toList).run P w1 = .ok () w2 ∧ K w2 := by
  have hs : SlR (fun p : Value × Atm => [.int .i64 p.2.1, p.1]) w v ps := h.own.slC
  refine SlR.rd hs (fun _ => rfl) hj hi fun w1 hw1 => ?_
  have := setR (P := P) (cs := [.int .i64 ps[i].2.1, ps[i].1]) hw1 (by rw [hz]; rfl) (by
    intro y hy
    simp at hy
    rcases hy with rfl | rfl
    · rfl
    · exact (Own.one (h.args _ (List.getElem_mem hi))).2) (K := K) fun w2 hg hs hc => hk w2 hg hs (hc 0 _ rfl) (hc 1 _ rfl)
  rw [hz] at this
  exact this
theorem Nest.put {w w' : World} {B : Nat} {v : Value} {ps : List (Value × Atm)} (h : Nest w B v ps) {i : Nat} (hi : i < ps.length) {ys : List Int} (ho : OwnI w' B ps[i].1 ys) (hf : Fr (fun b => ps[i].1.ownBlock = some b) w w') : Nest w' B v (ps.set i (ps[i].1, (ps[i].2.1, ys))) := by
  have ef : (ps.set i (ps[i].1, (ps[i].2.1, ys))).map Prod.fst = ps.map Prod.fst := by
    rw [List.map_set]
    apply List.ext_getElem (by simp)
    intro j h1 h2
    rw [List.getElem_set]
    split
    · rename_i e
      subst e
      simp
    · rfl
  refine ⟨?_, fun p hp => ?_, ?_, fun p hp k hk => ?_⟩
  · have e : (ps.set i (ps[i].1, (ps[i].2.1, ys))).flatMap (fun p => [Value.int .i64 p.2.1, p.1]) = ps.flatMap fun p => [Value.int .i64 p.2.1, p.1] := by
      rw [List.flatMap_def, List.flatMap_def, List.map_set]
      congr 1
      apply List.ext_getElem (by simp)
      intro j h1 h2
      rw [List.getElem_set]
      split
      · rename_i e
        subst e
        simp
      · rfl
    rw [e, List.length_set]
    exact Own.fr h.own hf fun k hk hk2 => h.sepv _ (List.getElem_mem hi) k hk2 hk
  · obtain ⟨j, hj, rfl⟩ := List.getElem_of_mem hp
    rw [List.getElem_set]
    split
    · exact ho
    · rename_i hne
      have hj' : j < ps.length := by simpa using hj
      refine Own.fr (h.args _ (List.getElem_mem hj')) hf fun k hk hk2 => ?_
      rcases Nat.lt_or_gt_of_ne hne with hlt | hlt
      · exact List.pairwise_iff_getElem.1 h.sep i j hi hj' hlt k hk2 hk
      · exact List.pairwise_iff_getElem.1 h.sep j i hj' hi hlt k hk hk2
  · have : (ps.map Prod.fst).Pairwise (fun u u' : Value => ∀ k, u.ownBlock = some k → u'.ownBlock ≠ some k) := List.pairwise_map.2 h.sep
    rw [← ef] at this
    exact List.pairwise_map.1 this
  · have : p.1 ∈ ps.map Prod.fst := ef ▸ List.mem_map.2 ⟨p, hp, rfl⟩
    obtain ⟨p0, hp0, e⟩ := List.mem_map.1 this
    exact h.sepv p0 hp0 k (e ▸ hk)
/-- Facts and Results, in either order that the language leaves open. -/
theorem factsTwo {w : World} {A : Addr} {lv x y : Value} {l : List Atm} (sl : SlA w lv l) (hc : ∀ {E}, Grow w E → ∀ (j : Nat) (v : Value), [x, y][j]? = some v → E.cell? (Addr.add A j) = some v) {F : Ending → World → Prop}
    (K : ∀ fv E, SlA E fv (trF l) → Grow w E → Calls Try.prog 8 #[.agg #[x, y], fv] E F) (m : DM w) :
    (∃ cs : List Value, cs.length = 2 ∧ (∀ j v, cs[j]? = some v → (dr w m.1).cell? (Addr.add A j) = some v) ∧ Calls Try.prog 9 #[lv] (dr w m.1) fun e w1 => ∃ t : Value, e = .returned t ∧ Calls Try.prog 8 #[.agg cs.toArray, t] w1 F) ∧
    (Calls Try.prog 9 #[lv] (dr w m.1) fun e w1 => ∃ t : Value, e = .returned t ∧ ∃ cs : List Value, cs.length = 2 ∧ (∀ j v, cs[j]? = some v → w1.cell? (Addr.add A j) = some v) ∧ Calls Try.prog 8 #[.agg cs.toArray, t] w1 F) := by
  have gm : Grow w (dr w m) := (Grow.refl w).dr m
  refine ⟨⟨[x, y], rfl, hc gm, (factsS_c (sl.gr gm)).mono ?_⟩, (factsS_c (sl.gr gm)).mono ?_⟩
  · rintro e E ⟨fv, rfl, sf, gE⟩
    exact ⟨_, rfl, K fv E sf (gm.trans gE)⟩
  · rintro e E ⟨fv, rfl, sf, gE⟩
    exact ⟨_, rfl, [x, y], rfl, hc (gm.trans gE), K fv E sf (gm.trans gE)⟩
theorem turn_c {w : World} {p : Addr} {d : Nat} (hd : d < 8) (hc : w.cell? p = some (.int .i64 (d : Int))) {x : Int} : Calls Try.prog 7 #[.int .i64 x, .pointer (some p)] w (Ret w (.int .i64 (trn d x))) := by
  refine f7_calls _ _ ?_
  refine condD (fun h => ⟨?_, Grow.refl w⟩) fun h => condD (fun h7 => ⟨?_, Grow.refl w⟩) fun h7 => ⟨_, hc, by unfold inR; omega, by omega, ?_, Grow.refl w⟩
  · unfold trn; rw [if_pos (.inl h)]
  · unfold trn; rw [if_pos (.inr h7)]
  · unfold trn; rw [if_neg (by omega), Int.tmod_eq_emod_of_nonneg (by omega)]
theorem byD (y : Int) : ∃ d : Nat, d < 8 ∧ IntKind.wrap .i64 (Int.tmod (IntKind.wrap .u64 y) 8) = (d : Int) := by
  have : IntKind.u64.wrap y = y % 2 ^ 64 := by simp [IntKind.wrap, IntKind.signed, IntKind.bits]
  rw [this]
  refine ⟨((y % 2 ^ 64) % 8).toNat, by omega, ?_⟩
  rw [Int.tmod_eq_emod_of_nonneg (by omega)]
  rw [IntKind.wrap_i64]
  omega
theorem set_trn (d : Nat) (xs : List Int) {k : Nat} (hk : k < xs.length) : ((xs.take k).map (trn d) ++ xs.drop k).set k (trn d xs[k]) = (xs.take (k + 1)).map (trn d) ++ xs.drop (k + 1) := by
  rw [List.take_succ_eq_append_getElem hk, List.map_append, List.set_append_right _ _ (by simp; omega)]
  rw [List.length_map, List.length_take, Nat.min_eq_left (by omega), Nat.sub_self, List.drop_eq_getElem_cons hk, List.set_cons_zero, List.append_assoc]
  rfl
theorem get_trn (d : Nat) (xs : List Int) {k : Nat} (hk : k < xs.length) (h : k < ((xs.take k).map (trn d) ++ xs.drop k).length) : ((xs.take k).map (trn d) ++ xs.drop k)[k] = xs[k] := by
  rw [List.getElem_append_right (by simp; omega)]
  simp [Nat.min_eq_left (Nat.le_of_lt hk)]
theorem len_trnL (d : Nat) (xs : List Int) (k : Nat) : ((xs.take k).map (trn d) ++ xs.drop k).length = xs.length := by
  simp
  omega
end Go.Proofs.Ytddpjdlhgggbkaa
