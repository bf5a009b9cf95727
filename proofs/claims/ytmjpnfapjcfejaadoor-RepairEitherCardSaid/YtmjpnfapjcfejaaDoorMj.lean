/- Contracts: what fits an atom, and all matches of a query. No condition. -/
import Derived.Test.YtmjpnfapjcfejaaDoorMg
import Derived.Test.YtmjpnfapjcfejaaDoorMi
import Derived.Test.YtmjpnfapjcfejaaDoorVw
namespace Go.Proofs.YtmjpnfapjcfejaaDoor
open Go Go.RowKit VC
set_option linter.unusedSimpArgs false
set_option linter.unusedVariables false

/-! ## Values in memory -/
def encV (m : Vals) : List Value := (List.range 8).map fun i => encI (m.getD i 0)
theorem encV_len (m : Vals) : (encV m).length = 8 := by simp [encV]
theorem encV_get (m : Vals) {i : Nat} (hi : i < 8) : (encV m)[i]? = some (encI (m.getD i 0)) := by
  simp only [encV, List.getElem?_map, List.getElem?_range hi, Option.map_some]
theorem encV_eq {m : Vals} (h : m.length = 8) : encV m = m.map encI := by
  apply List.ext_getElem (by simp [encV, h])
  intro i h1 h2
  have hi : i < m.length := by simpa using h2
  simp [encV, List.getD, hi]
theorem encV_one (m : Vals) : ∀ u ∈ encV m, u.oneCell' = true := by
  intro u hu
  simp only [encV, List.mem_map] at hu
  obtain ⟨i, _, rfl⟩ := hu
  rfl
theorem encV_inj {m n : Vals} (h1 : m.length = 8) (h2 : n.length = 8) (h : encV m = encV n) : m = n := by
  refine vals_ext h1 h2 fun i hi => ?_
  have := congrArg (fun l : List Value => l[i]?) h
  simp only [encV_get _ hi, Option.some.injEq, encI, Value.int.injEq, true_and] at this
  exact this
theorem encV_set {m : Vals} (h : m.length = 8) {k : Nat} (hk : k < 8) (y : Int) : (encV m).set k (encI y) = encV (m.set k y) := by
  rw [encV_eq h, encV_eq (by simpa using h), List.map_set]
abbrev SlV (w : World) (v : Value) (ms : List Vals) : Prop := SlR encV w v ms
theorem cells8 {w : World} {b : Nat} {m : Vals} (hr : RecV w b (encV m)) {i : Nat} (hi : i < 8) : w.cell? (Addr.add ⟨b, 0, none⟩ (i * 1)) = some (.int .i64 (m.getD i 0)) := by
  rw [Nat.mul_one]
  exact hr.cell (encV_get m hi)
theorem valOf_c {w : World} {m : Vals} {x : Int} (hx : -9 ≤ x ∧ x ≤ 7) : Calls Tryd.prog 116 #[.agg (encV m).toArray, .int .i64 x] w (Ret w (.int .i64 (ofV m x))) := by
  refine f116_calls _ _ ?_
  refine ⟨_, rfl, fun w1 hw1 => ?_⟩
  have g1 := alloc_grow hw1
  have hr : RecV w1 w.heap.size (encV m) := RecV.new hw1
  refine condD (fun h => ⟨by unfold inR; omega, ?_, g1⟩) fun h => ⟨by omega, m.getD x.toNat 0, cells8 hr (by omega), ?_, g1⟩
  · rw [ofV, if_pos h, show (0 : Int) - x = -x by omega]
  · rw [ofV, if_neg h]
/-! ## What fits -/
theorem fitL_len : ∀ {xs ys : List Int} {m n : Vals}, m.length = 8 → fitL m xs ys = some n → n.length = 8
  | [], [], m, n, h, e => by simp [fitL] at e; rw [← e]; exact h
  | x :: xs, y :: ys, m, n, h, e => by
    rw [fitL] at e
    split at e
    · exact fitL_len (m := m.set x.toNat y) (by simpa using h) e
    · split at e
      · exact fitL_len h e
      · cases e
  | [], _ :: _, m, n, h, e => by simp [fitL] at e
  | _ :: _, [], m, n, h, e => by simp [fitL] at e
/-- Numbers from 0 to 99. -/
def Sm (m : Vals) : Prop := ∀ x ∈ m, 0 ≤ x ∧ x ≤ 99
theorem fitL_sm : ∀ {xs ys : List Int} {m n : Vals}, Sm m → (∀ y ∈ ys, 1 ≤ y ∧ y ≤ 99) → fitL m xs ys = some n → Sm n
  | [], [], m, n, h, _, e => by simp [fitL] at e; rw [← e]; exact h
  | x :: xs, y :: ys, m, n, h, hy, e => by
    rw [fitL] at e
    have h0 := hy y (List.mem_cons_self ..)
    have hr := fun z hz => hy z (List.mem_cons_of_mem _ hz)
    split at e
    · refine fitL_sm (m := m.set x.toNat y) (fun z hz => ?_) hr e
      rcases List.mem_or_eq_of_mem_set hz with hz | rfl
      · exact h z hz
      · omega
    · split at e
      · exact fitL_sm h hr e
      · cases e
  | [], _ :: _, m, n, h, _, e => by simp [fitL] at e
  | _ :: _, [], m, n, h, _, e => by simp [fitL] at e
theorem fitL_ne : ∀ {xs ys : List Int} {m : Vals}, xs.length ≠ ys.length → fitL m xs ys = none
  | [], [], m, h => absurd rfl h
  | [], _ :: _, m, h => rfl
  | _ :: _, [], m, h => rfl
  | x :: xs, y :: ys, m, h => by
    rw [fitL]
    have : xs.length ≠ ys.length := fun e => h (by simp [e])
    split
    · exact fitL_ne this
    · split
      · exact fitL_ne this
      · rfl
/-- What fits has been found: the values, and whether there are some. -/
def FitR (w : World) (o : Option Vals) : Ending → World → Prop := fun e w' => ∃ m' b, e = .returned (.tuple #[.agg (encV m').toArray, .bool b]) ∧ Grow w w' ∧ m'.length = 8 ∧ o = if b then some m' else none
theorem fits_c {w : World} {m : Vals} {r s : Int} {u v : Value} {xs ys : List Int} (h8 : m.length = 8) (hx : SlI w u xs) (hy : SlI w v ys) (hT : ∀ x ∈ xs, -9 ≤ x ∧ x ≤ 7) :
    Calls Tryd.prog 98 #[.agg (encV m).toArray, .agg #[.int .i64 r, u], .agg #[.int .i64 s, v]] w (FitR w (fitA m (r, xs) (s, ys))) := by
  refine f98_calls _ _ _ ?_
  refine ⟨_, rfl, fun w1 hw1 => ⟨_, rfl, fun w3 hw3 => ⟨_, rfl, fun w5 hw5 w7 hw7 => ?_⟩⟩⟩
  have g1 := alloc_grow hw1
  have g3 := alloc_grow hw3
  have g5 := alloc_grow hw5
  have g7 := alloc_grow hw7
  have s1 := alloc_size hw1
  have s3 := alloc_size hw3
  have s5 := alloc_size hw5
  have s7 := alloc_size hw7
  have hV : RecV w7 w.heap.size (encV m) := (((RecV.new hw1).grow g3).grow g5).grow g7
  have hA := ((RecV.new hw3).grow g5).grow g7
  have hF := (RecV.new hw5).grow g7
  have hR := RecV.new hw7
  have g07 := ((g1.trans g3).trans g5).trans g7
  have hle := hx.len_le
  have hx7 := hx.grow g07
  have hy7 := hy.grow g07
  have fin : ∀ {w' : World} {m' : Vals} (b : Bool), m'.length = 8 → RecV w' w.heap.size (encV m') → Fr (fun i => i = w.heap.size) w7 w' → fitA m (r, xs) (s, ys) = (if b then some m' else none) →
      ∃ cs : List Value, cs.length = 8 ∧ (∀ (j : Nat) (v : Value), cs[j]? = some v → w'.cell? (Addr.add ⟨w.heap.size, 0, none⟩ j) = some v) ∧ ∃ cs' : Array Value, (Value.agg cs.toArray) = Value.agg cs' ∧ cs'.size = 8 ∧ ∃ w2 : World, (storeCells ⟨w5.heap.size, 0, none⟩ cs'.toList).run Tryd.prog w' = .ok () w2 ∧
        ∃ ds : List Value, ds.length = 8 ∧ (∀ (j : Nat) (v : Value), ds[j]? = some v → w2.cell? (Addr.add ⟨w5.heap.size, 0, none⟩ j) = some v) ∧ FitR w (fitA m (r, xs) (s, ys)) (.returned (.tuple #[(Value.agg ds.toArray), (Value.bool b)])) w2 := fun {w' m'} b hl hr hf ho => by
    refine ⟨_, encV_len m', hr.all, ?_⟩
    refine RecV.store (cs := encV m') (hR.fr hf (by omega)) (by rw [encV_len]; rfl) (encV_one m') fun w2 hf2 hr2 => ⟨encV m', encV_len m', hr2.all, m', b, rfl, ?_, hl, ho⟩
    exact g07.fr (S := fun i => w.heap.size ≤ i) ((hf.mono fun i _ e => by omega).trans (hf2.mono fun i _ e => by omega)) fun i hi e => by omega
  refine ⟨r, hA.cell (j := 0) rfl, s, hF.cell (j := 0) rfl, condP_i (fun h => ?_) fun h => ?_⟩
  · have h : ¬ r = s := by simpa using h
    exact fin false h8 hV (Fr.refl _ _) (by rw [fitA, if_neg h]; rfl)
  have hrs : r = s := by simpa using h
  have eA : fitA m (r, xs) (s, ys) = fitL m xs ys := by rw [fitA, if_pos hrs]
  refine ⟨u, hA.cell (j := 1) rfl, hx7.ln ⟨v, hF.cell (j := 1) rfl, hy7.ln (condP_i (fun h => ?_) fun h => ?_)⟩⟩
  · have h : ¬ xs.length = ys.length := by simp at h; omega
    exact fin false h8 hV (Fr.refl _ _) (by rw [eA, fitL_ne h]; rfl)
  have hl : xs.length = ys.length := by simp at h; omega
  refine ⟨u, hA.cell (j := 1) rfl, hx7.ln ⟨fun t w' => ∃ (k : Nat) (m' : Vals), t = k ∧ k ≤ xs.length ∧ m'.length = 8 ∧ RecV w' w.heap.size (encV m') ∧ Fr (fun i => i = w.heap.size) w7 w' ∧ fitL m xs ys = fitL m' (xs.drop k) (ys.drop k), fun t _ => xs.length - t.toNat, ⟨0, m, rfl, by omega, h8, hV, Fr.refl _ _, rfl⟩, ?_⟩⟩
  rintro - t w34 ⟨k, m', rfl, hk, hl8, hr, hf, he⟩
  have gx : ∀ {u : Value} {zs : List Int}, SlI w u zs → ∀ {w'}, Fr (fun i => i = w.heap.size) w7 w' → SlI w' u zs := fun {u zs} hs {w'} hf => hs.grow (g07.fr hf fun i hi e => by omega)
  refine condD (fun hlt => ?_) (fun hge => ?_)
  · have hkl : k < xs.length := by omega
    have hky : k < ys.length := by omega
    have hxk := hT _ (List.getElem_mem hkl)
    rw [List.drop_eq_getElem_cons hkl, List.drop_eq_getElem_cons hky, fitL] at he
    refine (gx hx hf).rd rfl hkl ⟨_, encV_len m', hr.all, (valOf_c hxk).mono ?_⟩
    rintro e w40 ⟨rfl, g40⟩
    have hf40 := hf.trans (Fr.of_grow g40)
    have hr40 := hr.grow g40
    refine ⟨_, rfl, condD (fun h0 => ?_) fun h0 => ?_⟩
    · rw [if_pos h0] at he
      have hx0 : 0 ≤ xs[k] := by
        refine Classical.byContradiction fun hn => ?_
        rw [ofV, if_pos (by omega)] at h0
        omega
      refine ⟨v, (hF.fr hf40 (by omega)).cell (j := 1) rfl, (gx hy hf40).rd rfl hky ?_⟩
      refine ⟨by omega, ⟨_, cells8 hr40 (by omega)⟩, by rw [Nat.mul_one]; exact hr40.free _, fun w48 hw48 => ?_⟩
      have hw48' : w48 = w40.setCell (Addr.add ⟨w.heap.size, 0, none⟩ xs[k].toNat) (encI ys[k]) := by rw [hw48, Nat.mul_one, encI]
      refine ⟨by unfold inR; omega, ⟨k + 1, m'.set xs[k].toNat ys[k], by omega, by omega, by simpa using hl8, ?_, hf40.trans (RecV.set_fr hw48'), he⟩, by dsimp only; omega⟩
      rw [← encV_set hl8 (by omega)]
      exact hr40.set hw48'
    · rw [if_neg h0] at he
      refine ⟨v, (hF.fr hf40 (by omega)).cell (j := 1) rfl, (gx hy hf40).rd rfl hky ?_⟩
      refine condP_i (fun h1 => ?_) fun h1 => ?_
      · have h1 : ¬ ofV m' xs[k] = ys[k] := by simpa using h1
        rw [if_neg h1] at he
        exact fin false hl8 hr40 hf40 (by rw [eA, he]; rfl)
      · have h1 : ofV m' xs[k] = ys[k] := by simpa using h1
        rw [if_pos h1] at he
        exact ⟨by unfold inR; omega, ⟨k + 1, m', by omega, by omega, hl8, hr40, hf40, he⟩, by dsimp only; omega⟩
  · have hkl : k = xs.length := by omega
    subst hkl
    rw [List.drop_length, hl, List.drop_length] at he
    exact fin true hl8 hr hf (by rw [eA, he]; rfl)

/-! ## append of one record; where its array lies -/
theorem pappRk {α : Type} {f : α → List Value} {P : Program} {t ty e : TypeId} {sz bytes : Nat} {z : Value} (hT : ElT P t e sz bytes z) (hsz : 0 < sz) (hf : ∀ x, (f x).length = sz) (h1 : ∀ x, ∀ u ∈ f x, u.oneCell' = true) {w w1 : World} {B : Nat} {v : Value} {x : α} {xs : List α}
    (hw : w1 = w.alloc (.cells (f x).toArray e)) (hown : Own w B e sz v xs.length (xs.flatMap f)) (hB : B ≤ w.heap.size) (hlen : (xs.length + 1) * bytes ≤ 140737488355328) (hb : 0 < bytes) {K : Value → World → Prop}
    (hk : ∀ v' w', Own w' B e sz v' (xs ++ [x]).length ((xs ++ [x]).flatMap f) → Fr (fun k => some k = v.ownBlock) w1 w' → (∀ k, v'.ownBlock = some k → some k = v.ownBlock ∨ w.heap.size ≤ k) → K v' w') : PApp P t ty v (.slice (some ⟨w.heap.size, 0, none⟩) 1 1) w1 K := by
  have hl := Own.lit (B := w.heap.size) (n := 1) (sz := sz) hw (Nat.le_refl _) (by omega) (by simp [hf])
  refine pappk hT hsz (hown.grow (alloc_grow hw)) hl.slC (by simp [hf]) (by simpa using h1 x) (by rw [alloc_size hw]; omega) hlen hb ?_
  intro v' w' ho hfr _ hbl
  refine hk v' w' ?_ hfr fun k hk => (hbl k hk).imp id fun h => by have := alloc_size hw; omega
  have e1 : (xs ++ [x]).length = xs.length + 1 := by simp
  have e2 : (xs ++ [x]).flatMap f = xs.flatMap f ++ (f x).toArray.toList := by simp
  rw [e1, e2]
  exact ho
/-- What fits parts all that fits. -/
theorem step_split {fs : List Atm} {ms : List Vals} {a : Atm} {i j : Nat} (hi : i < ms.length) (hj : j < fs.length) {n : Vals} (h : fitA ms[i] a fs[j] = some n) :
    ∃ C, stepM fs ms a = (stepM fs (ms.take i) a ++ (fs.take j).filterMap (fitA ms[i] a)) ++ n :: C := by
  refine ⟨(fs.drop (j + 1)).filterMap (fitA ms[i] a) ++ stepM fs (ms.drop (i + 1)) a, ?_⟩
  have e1 : ms = ms.take i ++ ms[i] :: ms.drop (i + 1) := by rw [← List.drop_eq_getElem_cons hi, List.take_append_drop]
  have e2 : fs.filterMap (fitA ms[i] a) = (fs.take j).filterMap (fitA ms[i] a) ++ (n :: (fs.drop (j + 1)).filterMap (fitA ms[i] a)) := by
    conv => lhs; rw [show fs = fs.take j ++ fs[j] :: fs.drop (j + 1) by rw [← List.drop_eq_getElem_cons hj, List.take_append_drop]]
    rw [List.filterMap_append, List.filterMap_cons, h]
  conv => lhs; unfold stepM; rw [e1]
  rw [List.flatMap_append, List.flatMap_cons, e2]
  simp only [stepM, List.append_assoc, List.cons_append]
theorem step_take {fs : List Atm} {ms : List Vals} {a : Atm} {i : Nat} (hi : i < ms.length) : stepM fs (ms.take (i + 1)) a = stepM fs (ms.take i) a ++ fs.filterMap (fitA ms[i] a) := by
  unfold stepM
  rw [List.take_succ_eq_append_getElem hi, List.flatMap_append]
  simp
theorem fm_take {α β : Type} {f : α → Option β} {l : List α} {j : Nat} (hj : j < l.length) : (l.take (j + 1)).filterMap f = (l.take j).filterMap f ++ (match f l[j] with | some y => [y] | none => []) := by
  rw [List.take_succ_eq_append_getElem hj, List.filterMap_append, List.filterMap_cons]
  cases f l[j] <;> rfl
theorem sm_wf {m : Vals} (h : Sm m) : ∀ x ∈ m, (Lit.int .i64 x).wf = true := by
  intro x hx
  have := h x hx
  have e1 : IntKind.min .i64 = -9223372036854775808 := by decide
  have e2 : IntKind.max .i64 = 9223372036854775807 := by decide
  simp only [Lit.wf, e1, e2, Bool.and_eq_true, decide_eq_true_eq]
  omega
end Go.Proofs.YtmjpnfapjcfejaaDoor
