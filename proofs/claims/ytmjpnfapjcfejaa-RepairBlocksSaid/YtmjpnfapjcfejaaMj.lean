/- Contracts: what fits an atom, and all matches of a query. No condition. -/
import Derived.Test.YtmjpnfapjcfejaaMg
import Derived.Test.YtmjpnfapjcfejaaMi
import Derived.Test.YtmjpnfapjcfejaaVw
namespace Go.Proofs.Ytmjpnfapjcfejaa
open Go Go.RowKit VC
set_option linter.unusedSimpArgs false
set_option linter.unusedVariables false

/-! ## Values in memory -/
def encV (m : Vals) : List Value := (List.range 8).map fun i => encI (m.getD i 0)
theorem encV_len (m : Vals) : (encV m).length = 8 := by simp [encV]
theorem encV_get (m : Vals) {i : Nat} (hi : i < 8) : (encV m)[i]? = some (encI (m.getD i 0)) := by
  simp only [encV, List.getElem?_map, List.getElem?_range hi, Option.map_some]
theorem encV_eq {m : Vals} (h : m.length = 8) : encV m = m.map encI := by
  apply List.ext_getElem (by simp [encV, h])
  intro i h1 h2
  have hi : i < m.length := by simpa using h2
  simp [encV, List.getD, hi]
theorem encV_one (m : Vals) : ∀ u ∈ encV m, u.oneCell' = true := by
  intro u hu
  simp only [encV, List.mem_map] at hu
  obtain ⟨i, _, rfl⟩ := hu
  rfl
theorem encV_inj {m n : Vals} (h1 : m.length = 8) (h2 : n.length = 8) (h : encV m = encV n) : m = n := by
  refine vals_ext h1 h2 fun i hi => ?_
  have := congrArg (fun l : List Value => l[i]?) h
  simp only [encV_get _ hi, Option.some.injEq, encI, Value.int.injEq, true_and] at this
  exact this
theorem encV_set {m : Vals} (h : m.length = 8) {k : Nat} (hk : k < 8) (y : Int) : (encV m).set k (encI y) = encV (m.set k y) := by
  rw [encV_eq h, encV_eq (by simpa using h), List.map_set]
abbrev SlV (w : World) (v : Value) (ms : List Vals) : Prop := SlR encV w v ms
theorem cells8 {w : World} {b : Nat} {m : Vals} (hr : RecV w b (encV m)) {i : Nat} (hi : i < 8) : w.cell? (Addr.add ⟨b, 0, none⟩ (i * 1)) = some (.int .i64 (m.getD i 0)) := by
  rw [Nat.mul_one]
  exact hr.cell (encV_get m hi)
/-! ## What fits -/
theorem fitL_len : ∀ {xs ys : List Int} {m n : Vals}, m.length = 8 → fitL m xs ys = some n → n.length = 8
  | [], [], m, n, h, e => by simp [fitL] at e; rw [← e]; exact h
  | x :: xs, y :: ys, m, n, h, e => by
    rw [fitL] at e
    split at e
    · exact fitL_len (m := m.set x.toNat y) (by simpa using h) e
    · split at e
      · exact fitL_len h e
      · cases e
  | [], _ :: _, m, n, h, e => by simp [fitL] at e
  | _ :: _, [], m, n, h, e => by simp [fitL] at e
/-- Numbers from 0 to 99. -/
def Sm (m : Vals) : Prop := ∀ x ∈ m, 0 ≤ x ∧ x ≤ 99
theorem fitL_sm : ∀ {xs ys : List Int} {m n : Vals}, Sm m → (∀ y ∈ ys, 1 ≤ y ∧ y ≤ 99) → fitL m xs ys = some n → Sm n
  | [], [], m, n, h, _, e => by simp [fitL] at e; rw [← e]; exact h
  | x :: xs, y :: ys, m, n, h, hy, e => by
    rw [fitL] at e
    have h0 := hy y (List.mem_cons_self ..)
    have hr := fun z hz => hy z (List.mem_cons_of_mem _ hz)
    split at e
    · refine fitL_sm (m := m.set x.toNat y) (fun z hz => ?_) hr e
      rcases List.mem_or_eq_of_mem_set hz with hz | rfl
      · exact h z hz
      · omega
    · split at e
      · exact fitL_sm h hr e
      · cases e
  | [], _ :: _, m, n, h, _, e => by simp [fitL] at e
  | _ :: _, [], m, n, h, _, e => by simp [fitL] at e
theorem fitL_ne : ∀ {xs ys : List Int} {m : Vals}, xs.length ≠ ys.length → fitL m xs ys = none
  | [], [], m, h => absurd rfl h
  | [], _ :: _, m, h => rfl
  | _ :: _, [], m, h => rfl
  | x :: xs, y :: ys, m, h => by
    rw [fitL]
    have : xs.length ≠ ys.length := fun e => h (by simp [e])
    split
    · exact fitL_ne this
    · split
      · exact fitL_ne this
      · rfl
/-- What fits has been found: the values, and whether there are some. -/
def FitR (w : World) (o : Option Vals) : Ending → World → Prop := fun e w' => ∃ m' b, e = .returned (.tuple #[.agg (encV m').toArray, .bool b]) ∧ Grow w w' ∧ m'.length = 8 ∧ o = if b then some m' else none
/-! ## append of one record; where its array lies -/
theorem pappRk {α : Type} {f : α → List Value} {P : Program} {t ty e : TypeId} {sz bytes : Nat} {z : Value} (hT : ElT P t e sz bytes z) (hsz : 0 < sz) (hf : ∀ x, (f x).length = sz) (h1 : ∀ x, ∀ u ∈ f x, u.oneCell' = true) {w w1 : World} {B : Nat} {v : Value} {x : α} {xs : List α}
    (hw : w1 = w.alloc (.cells (f x).toArray e)) (hown : Own w B e sz v xs.length (xs.flatMap f)) (hB : B ≤ w.heap.size) (hlen : (xs.length + 1) * bytes ≤ 140737488355328) (hb : 0 < bytes) {K : Value → World → Prop}
    (hk : ∀ v' w', Own w' B e sz v' (xs ++ [x]).length ((xs ++ [x]).flatMap f) → Fr (fun k => some k = v.ownBlock) w1 w' → (∀ k, v'.ownBlock = some k → some k = v.ownBlock ∨ w.heap.size ≤ k) → K v' w') : PApp P t ty v (.slice (some ⟨w.heap.size, 0, none⟩) 1 1) w1 K := by
  have hl := Own.lit (B := w.heap.size) (n := 1) (sz := sz) hw (Nat.le_refl _) (by omega) (by simp [hf])
  refine pappk hT hsz (hown.grow (alloc_grow hw)) hl.slC (by simp [hf]) (by simpa using h1 x) (by rw [alloc_size hw]; omega) hlen hb ?_
  intro v' w' ho hfr _ hbl
  refine hk v' w' ?_ hfr fun k hk => (hbl k hk).imp id fun h => by have := alloc_size hw; omega
  have e1 : (xs ++ [x]).length = xs.length + 1 := by simp
  have e2 : (xs ++ [x]).flatMap f = xs.flatMap f ++ (f x).toArray.toList := by simp
  rw [e1, e2]
  exact ho
/-- What fits parts all that fits. -/
theorem step_split {fs : List Atm} {ms : List Vals} {a : Atm} {i j : Nat} (hi : i < ms.length) (hj : j < fs.length) {n : Vals} (h : fitA ms[i] a fs[j] = some n) :
    ∃ C, stepM fs ms a = (stepM fs (ms.take i) a ++ (fs.take j).filterMap (fitA ms[i] a)) ++ n :: C := by
  refine ⟨(fs.drop (j + 1)).filterMap (fitA ms[i] a) ++ stepM fs (ms.drop (i + 1)) a, ?_⟩
  have e1 : ms = ms.take i ++ ms[i] :: ms.drop (i + 1) := by rw [← List.drop_eq_getElem_cons hi, List.take_append_drop]
  have e2 : fs.filterMap (fitA ms[i] a) = (fs.take j).filterMap (fitA ms[i] a) ++ (n :: (fs.drop (j + 1)).filterMap (fitA ms[i] a)) := by
    conv => lhs; rw [show fs = fs.take j ++ fs[j] :: fs.drop (j + 1) by rw [← List.drop_eq_getElem_cons hj, List.take_append_drop]]
    rw [List.filterMap_append, List.filterMap_cons, h]
  conv => lhs; unfold stepM; rw [e1]
  rw [List.flatMap_append, List.flatMap_cons, e2]
  simp only [stepM, List.append_assoc, List.cons_append]
theorem step_take {fs : List Atm} {ms : List Vals} {a : Atm} {i : Nat} (hi : i < ms.length) : stepM fs (ms.take (i + 1)) a = stepM fs (ms.take i) a ++ fs.filterMap (fitA ms[i] a) := by
  unfold stepM
  rw [List.take_succ_eq_append_getElem hi, List.flatMap_append]
  simp
theorem fm_take {α β : Type} {f : α → Option β} {l : List α} {j : Nat} (hj : j < l.length) : (l.take (j + 1)).filterMap f = (l.take j).filterMap f ++ (match f l[j] with | some y => [y] | none => []) := by
  rw [List.take_succ_eq_append_getElem hj, List.filterMap_append, List.filterMap_cons]
  cases f l[j] <;> rfl
theorem sm_wf {m : Vals} (h : Sm m) : ∀ x ∈ m, (Lit.int .i64 x).wf = true := by
  intro x hx
  have := h x hx
  have e1 : IntKind.min .i64 = -9223372036854775808 := by decide
  have e2 : IntKind.max .i64 = 9223372036854775807 := by decide
  simp only [Lit.wf, e1, e2, Bool.and_eq_true, decide_eq_true_eq]
  omega
end Go.Proofs.Ytmjpnfapjcfejaa
