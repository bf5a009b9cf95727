/- Contracts of the reference: what fits. No condition. -/
import Derived.Test.YtjkphmbjdleppaaGreatMn
import Derived.Test.YtjkphmbjdleppaaGreatMk
namespace Go.Proofs.YtjkphmbjdleppaaGreat
open Go Go.RowKit VC
set_option linter.unusedSimpArgs false
set_option linter.unusedVariables false

/-- The end of a slice of ints. -/
theorem SlI.from_ {w : World} {v : Value} {xs : List Int} (h : SlI w v xs) {i : Nat} {ik : IntKind} {z : Int} (hz : z = (i : Int)) (hi : i ≤ xs.length) {K : Value → Prop} (hk : ∀ v', SlI w v' (xs.drop i) → K v') :
    ∃ (a : Option Addr) (n c : Nat), v = .slice a n c ∧ ∃ l hh m : Nat, sbR (some (.int ik z)) none none n c l hh m ∧ K (.slice (if m = l then a else a.map (·.add (l * 1))) (hh - l) (m - l)) := by
  subst hz
  obtain ⟨a, c, rfl, h1, h2, h3, h4⟩ := h.ex
  have hl : (xs.drop i).length = xs.length - i := by simp
  refine ⟨a, _, c, rfl, i, xs.length, c, ⟨rfl, rfl, rfl, by simp, by omega, by omega, by omega⟩, hk _ ?_⟩
  unfold SlI
  rw [hl]
  refine ⟨if c = i then a else a.map (·.add (i * 1)), c - i, rfl, by omega, by omega, ?_, fun j u hj => ?_⟩
  · intro hn
    split at hn
    · rename_i hc; omega
    · have : a = none := by cases a <;> simp at hn ⊢
      have := h3 this; omega
  · have hj2 : (xs.map encI)[i + j]? = some u := by
      rw [List.map_drop, List.getElem?_drop] at hj
      exact hj
    have hlt := (List.getElem?_eq_some_iff.1 hj2).1
    simp at hlt
    obtain ⟨b, rfl, hc⟩ := h4 (i + j) u hj2
    refine ⟨b.add (i * 1), ?_, ?_⟩
    · rw [if_neg (by omega)]; rfl
    · rw [add_add, Nat.mul_one]; exact hc
theorem set_same {m : Vals} {k : Nat} {y : Int} (hk : k < m.length) (h : m.getD k 0 = y) : m.set k y = m := by
  apply List.ext_getElem (by simp)
  intro i h1 h2
  rw [List.getElem_set]
  split
  · rename_i e
    subst e
    rw [← h]; simp [List.getD, hk]
  · rfl
theorem refFit_c {w : World} {m : Vals} {r s : Int} {u v : Value} {xs ys : List Int} (h8 : m.length = 8) (hx : SlI w u xs) (hy : SlI w v ys) (hT : ∀ x ∈ xs, -9 ≤ x ∧ x ≤ 7) :
    Calls Tryz.prog 62 #[.agg (encV m).toArray, .agg #[.int .i64 r, u], .agg #[.int .i64 s, v]] w (FitR w (fitA m (r, xs) (s, ys))) := by
  refine f62_calls _ _ _ ?_
  refine ⟨_, rfl, fun w1 hw1 => ⟨_, rfl, fun w3 hw3 => ⟨_, rfl, fun w5 hw5 w7 hw7 => ?_⟩⟩⟩
  have g1 := alloc_grow hw1
  have g3 := alloc_grow hw3
  have g5 := alloc_grow hw5
  have g7 := alloc_grow hw7
  have s1 := alloc_size hw1
  have s3 := alloc_size hw3
  have s5 := alloc_size hw5
  have s7 := alloc_size hw7
  have hV : RecV w7 w.heap.size (encV m) := (((RecV.new hw1).grow g3).grow g5).grow g7
  have hA := ((RecV.new hw3).grow g5).grow g7
  have hF := (RecV.new hw5).grow g7
  have hR := RecV.new hw7
  have g07 := ((g1.trans g3).trans g5).trans g7
  have hle := hx.len_le
  have hx7 := hx.grow g07
  have hy7 := hy.grow g07
  have fin : ∀ {w' : World} {m' : Vals} (b : Bool), m'.length = 8 → RecV w' w.heap.size (encV m') → Fr (fun i => i = w.heap.size) w7 w' → fitA m (r, xs) (s, ys) = (if b then some m' else none) →
      ∃ cs : List Value, cs.length = 8 ∧ (∀ (j : Nat) (v : Value), cs[j]? = some v → w'.cell? (Addr.add ⟨w.heap.size, 0, none⟩ j) = some v) ∧ ∃ cs' : Array Value, (Value.agg cs.toArray) = Value.agg cs' ∧ cs'.size = 8 ∧ ∃ w2 : World, (storeCells ⟨w5.heap.size, 0, none⟩ cs'.toList).run Tryz.prog w' = .ok () w2 ∧
        ∃ ds : List Value, ds.length = 8 ∧ (∀ (j : Nat) (v : Value), ds[j]? = some v → w2.cell? (Addr.add ⟨w5.heap.size, 0, none⟩ j) = some v) ∧ FitR w (fitA m (r, xs) (s, ys)) (.returned (.tuple #[(Value.agg ds.toArray), (Value.bool b)])) w2 := fun {w' m'} b hl hr hf ho => by
    refine ⟨_, encV_len m', hr.all, ?_⟩
    refine RecV.store (cs := encV m') (hR.fr hf (by omega)) (by rw [encV_len]; rfl) (encV_one m') fun w2 hf2 hr2 => ⟨encV m', encV_len m', hr2.all, m', b, rfl, ?_, hl, ho⟩
    exact g07.fr (S := fun i => w.heap.size ≤ i) ((hf.mono fun i _ e => by omega).trans (hf2.mono fun i _ e => by omega)) fun i hi e => by omega
  refine ⟨r, hA.cell (j := 0) rfl, s, hF.cell (j := 0) rfl, condP_i (fun h => ?_) fun h => ?_⟩
  · have h : ¬ r = s := by simpa using h
    exact fin false h8 hV (Fr.refl _ _) (by rw [fitA, if_neg h]; rfl)
  have hrs : r = s := by simpa using h
  have eA : fitA m (r, xs) (s, ys) = fitL m xs ys := by rw [fitA, if_pos hrs]
  refine ⟨u, hA.cell (j := 1) rfl, hx7.ln ⟨v, hF.cell (j := 1) rfl, hy7.ln (condP_i (fun h => ?_) fun h => ?_)⟩⟩
  · have h : ¬ xs.length = ys.length := by simp at h; omega
    exact fin false h8 hV (Fr.refl _ _) (by rw [eA, fitL_ne h]; rfl)
  have hl : xs.length = ys.length := by simp at h; omega
  refine ⟨u, hA.cell (j := 1) rfl, hx7.ln ⟨fun t w' => ∃ (k : Nat) (m' : Vals), t = k ∧ k ≤ xs.length ∧ m'.length = 8 ∧ RecV w' w.heap.size (encV m') ∧ Fr (fun i => i = w.heap.size) w7 w' ∧ fitL m xs ys = fitL m' (xs.drop k) (ys.drop k), fun t _ => xs.length - t.toNat, ⟨0, m, rfl, by omega, h8, hV, Fr.refl _ _, rfl⟩, ?_⟩⟩
  rintro - t w34 ⟨k, m', rfl, hk, hl8, hr, hf, he⟩
  have gx : ∀ {u : Value} {zs : List Int}, SlI w u zs → ∀ {w'}, Fr (fun i => i = w.heap.size) w7 w' → SlI w' u zs := fun {u zs} hs {w'} hf => hs.grow (g07.fr hf fun i hi e => by omega)
  refine condD (fun hlt => ?_) (fun hge => ?_)
  · have hkl : k < xs.length := by omega
    have hky : k < ys.length := by omega
    have hxk := hT _ (List.getElem_mem hkl)
    rw [List.drop_eq_getElem_cons hkl, List.drop_eq_getElem_cons hky, fitL] at he
    have fd : ∀ m : DM w34, Fr (fun i => i = w.heap.size) w7 (dr w34 m) := fun m => hf.trans (Fr.of_grow ((Grow.refl w34).dr m))
    have rd : ∀ m : DM w34, RecV (dr w34 m) w.heap.size (encV m') := fun m => hr.grow ((Grow.refl w34).dr m)
    refine (gx hx hf).rd rfl hkl (condD (fun hneg => ?_) fun hpos => ?_)
    · have e0 : ofV m' xs[k] = - xs[k] := by rw [ofV, if_pos hneg]
      rw [e0, if_neg (by omega)] at he
      refine ⟨v, (hF.fr hf (by omega)).cell (j := 1) rfl, (gx hy hf).rd rfl hky ⟨by unfold inR; omega, condP_i (fun h1 => ?_) fun h1 => ?_⟩⟩
      · have h1 : ¬ ys[k] = 0 - xs[k] := by simpa using h1
        rw [if_neg (by omega)] at he
        exact fin false hl8 hr hf (by rw [eA, he]; rfl)
      · have h1 : ys[k] = 0 - xs[k] := by simpa using h1
        rw [if_pos (by omega)] at he
        refine cF (decide_eq_false (by omega)) fun m => cF (decide_eq_false (by omega)) ?_
        exact ⟨by unfold inR; omega, ⟨k + 1, m', by omega, by omega, hl8, rd m, fd m, he⟩, by dsimp only; omega⟩
    · obtain ⟨x, hx'⟩ : ∃ x : Nat, xs[k] = x := ⟨xs[k].toNat, by omega⟩
      have e0 : ofV m' xs[k] = m'.getD x 0 := by rw [ofV, if_neg (by omega), hx', Int.toNat_natCast]
      rw [e0, hx', Int.toNat_natCast] at he
      rw [hx'] at hxk hpos ⊢
      have hx8 : x < 8 := by omega
      have st : ∀ q : DM w34, (m'.getD x 0 = 0 ∨ m'.getD x 0 = ys[k]) → ∃ t : Value, (dr w34 q).cell? (Addr.add ⟨w3.heap.size, 0, none⟩ 1) = some t ∧ ∃ (a : Addr) (n c : Nat), t = Value.slice (some a) n c ∧ ((0 : Int) ≤ (k : Int) ∧ (k : Int) < (n : Int)) ∧ ∃ y : Int, (dr w34 q).cell? (a.add (Int.toNat (k : Int) * 1)) = some (Value.int .i64 y) ∧ ((0 : Int) ≤ (x : Int) ∧ (x : Int) < ((8 : Nat) : Int)) ∧ (∃ old, (dr w34 q).cell? (Addr.add ⟨w.heap.size, 0, none⟩ (Int.toNat (x : Int) * 1)) = some old) ∧ (dr w34 q).frozen? (Addr.add ⟨w.heap.size, 0, none⟩ (Int.toNat (x : Int) * 1)) = false ∧ ∀ w2, w2 = (dr w34 q).setCell (Addr.add ⟨w.heap.size, 0, none⟩ (Int.toNat (x : Int) * 1)) (Value.int .i64 y) →
          inR ((k : Int) + 1) ∧ ((∃ (k' : Nat) (m' : Vals), (k : Int) + 1 = k' ∧ k' ≤ xs.length ∧ m'.length = 8 ∧ RecV w2 w.heap.size (encV m') ∧ Fr (fun i => i = w.heap.size) w7 w2 ∧ fitL m xs ys = fitL m' (xs.drop k') (ys.drop k')) ∧ xs.length - Int.toNat ((k : Int) + 1) < xs.length - Int.toNat (k : Int)) := fun q hok => by
        refine ⟨v, (hF.fr (fd q) (by omega)).cell (j := 1) rfl, (gx hy (fd q)).rd rfl hky ⟨by omega, ⟨_, by rw [Int.toNat_natCast]; exact cells8 (rd q) hx8⟩, by rw [Nat.mul_one]; exact (rd q).free _, fun w2 hw2 => ?_⟩⟩
        have hw2' : w2 = (dr w34 q).setCell (Addr.add ⟨w.heap.size, 0, none⟩ x) (encI ys[k]) := by rw [hw2, Nat.mul_one, encI, Int.toNat_natCast]
        refine ⟨by unfold inR; omega, ⟨k + 1, m'.set x ys[k], by omega, by omega, by simpa using hl8, ?_, (fd q).trans (RecV.set_fr hw2'), ?_⟩, by omega⟩
        · rw [← encV_set hl8 hx8]
          exact (rd q).set hw2'
        · rcases hok with h | h
          · rw [he, if_pos h]
          · rw [set_same (by omega) h, he]
            split
            · rw [set_same (by omega) h]
            · first | rfl | rw [if_pos h]
      refine cT (decide_eq_true (by omega)) ⟨by omega, m'.getD x 0, by rw [Int.toNat_natCast]; exact cells8 hr hx8, condP_i (fun h0 => ?_) fun h0 => ?_⟩
      · have h0 : ¬ m'.getD x 0 = 0 := by simpa using h0
        refine ⟨by omega, m'.getD x 0, by rw [Int.toNat_natCast]; exact cells8 hr hx8, v, (hF.fr hf (by omega)).cell (j := 1) rfl, (gx hy hf).rd rfl hky fun m => condP_i (fun h1 => ?_) fun h1 => ?_⟩
        · have h1 : ¬ m'.getD x 0 = ys[k] := by simpa using h1
          rw [if_neg h0, if_neg h1] at he
          exact fin false hl8 (rd m) (fd m) (by rw [eA, he]; rfl)
        · have h1 : m'.getD x 0 = ys[k] := by simpa using h1
          exact cT (decide_eq_true (by omega)) (st m (.inr h1))
      · have h0 : m'.getD x 0 = 0 := by simpa using h0
        exact fun m => cT (decide_eq_true (by omega)) (st m (.inl h0))
  · have hkl : k = xs.length := by omega
    subst hkl
    rw [List.drop_length, hl, List.drop_length] at he
    exact fin true hl8 hr hf (by rw [eA, he]; rfl)
end Go.Proofs.YtjkphmbjdleppaaGreat
