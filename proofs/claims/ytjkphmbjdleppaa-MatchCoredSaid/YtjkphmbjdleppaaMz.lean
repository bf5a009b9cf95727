/- append onto a full slice; nil compared. No condition. -/
import Derived.Test.YtjkphmbjdleppaaMa
namespace Go.Proofs.Ytjkphmbjdleppaa
open Go Go.RowKit VC
set_option linter.unusedSimpArgs false
set_option linter.unusedVariables false

theorem nilNe {P : Program} {t e : TypeId} (ht : P.underlying t = some (.slice e)) {ox : Operand} {c : Value} {a : Option Addr} {n m : Nat} : PBinR P .neq t ox (.const c) (.slice a n m) (.slice none 0 0) a.isSome := by
  intro w
  have hg : eqGuard .neq t ox (.const c) (.slice a n m) (.slice none 0 0) = pure () := by simp [eqGuard_at_slice]
  simp only [hg, Sem.run_bind, Sem.run_pure, Result.andThen_ok]
  simp only [binOp]
  simp [Op.equal, Op.maxDepth, Lib.run_equalIn_slice_nil w 9999 t e a n m 0 0 ht]
/-- append of one int onto a full slice: a new array. -/
theorem pappF {t ty : TypeId} (hT : ElT Try.prog t 3 1 8 (.int .i64 0)) {w w1 : World} {a : Addr} {n : Nat} {x : Int} {xs : List Int} (hw : w1 = w.alloc (.cells #[.int .i64 x] 3)) (hv : SlI w (.slice (some a) n n) xs) (hn : n = xs.length) (hlen : xs.length ≤ 1000000) {K : Value → World → Prop}
    (hk : ∀ v' w', OwnI w' w.heap.size v' (xs ++ [x]) → Grow w w' → K v' w') : PApp Try.prog t ty (.slice (some a) n n) (.slice (some ⟨w.heap.size, 0, none⟩) 1 1) w1 K := by
  subst hn
  obtain ⟨i, hi, hz, hsize, hby⟩ := hT.info
  have hv1 := hv.grow (alloc_grow hw)
  obtain ⟨a', c', he, h1, h2, h3, h4⟩ := hv1.ex
  simp only [Value.slice.injEq, Option.some.injEq, true_and] at he
  obtain ⟨rfl, rfl⟩ := he
  have hn : ∀ j y, [Value.int .i64 x][j]? = some y → w1.cell? ((⟨w.heap.size, 0, none⟩ : Addr).add j) = some y := fun j y hj => by
    obtain ⟨hj1, hj2⟩ := List.getElem?_eq_some_iff.1 hj
    have hj0 : j = 0 := by simpa using hj1
    subst hj0
    simp at hj2
    subst hj2
    exact alloc_cell0 hw
  have holds : ∀ j y, (xs.map encI)[j]? = some y → w1.cell? (a.add j) = some y := fun j y hj => by
    obtain ⟨b, hb, hc⟩ := h4 j y hj
    cases hb
    exact hc
  have hm : xs.length + 1 ≤ maxLen := by simp only [maxLen]; omega
  have hr := run_append_grow (P := Try.prog) w1 t ty 3 i (.int .i64 0) hT.und hi hz a xs.length xs.length (xs.map encI) (by simp [hsize]) holds _ 1 1 [.int .i64 x] (by simp [hsize]) hn (by omega) (by omega) (growslice_fits (by omega) (by rw [hby]; omega))
  refine ⟨_, _, hr, hk _ _ ?_ ?_⟩
  · have hge := grownCap_ge w1 (xs.length + 1) xs.length 3
    have hcm := grownCap_le_maxLen w1 (xs.length + 1) xs.length 3 hm
    have e : (xs ++ [x]).length = xs.length + 1 := by simp
    have e2 : (xs ++ [x]).map encI = xs.map encI ++ [.int .i64 x] := by simp [encI]
    unfold OwnI
    rw [e, e2]
    refine ⟨by simp, .inr ⟨w1.heap.size, _, _, rfl, by rw [alloc_size hw]; omega, heap_alloc_new w1.drew _, hge, hcm, ?_, ?_⟩⟩
    · simp only [Array.size_append, List.size_toArray, size_zeroCells, hT.zs, List.length_map, List.length_singleton]
      omega
    · simp only [Array.toList_append, List.append_assoc]
      rw [← List.append_assoc]
      have hl : (xs.map encI ++ [Value.int .i64 x]).length = (xs.length + 1) * 1 := by simp
      rw [← hl]
      exact List.take_left
  · exact (alloc_grow hw).trans ((Below.drew (Grow.refl w1)).alloc (Nat.le_refl _) _)
theorem pappT {t ty : TypeId} (hT : ElT Try.prog t 3 1 8 (.int .i64 0)) {w w1 : World} {B : Nat} {v : Value} {x : Int} {xs : List Int} (hw : w1 = w.alloc (.cells #[.int .i64 x] 3)) (hown : OwnI w B v xs) (hB : B ≤ w.heap.size) (hlen : xs.length ≤ 1000000) {K : Value → World → Prop}
    (hk : ∀ v' w', OwnI w' B v' (xs ++ [x]) → Fr (fun k => some k = v.ownBlock) w1 w' → K v' w') : PApp Try.prog t ty v (.slice (some ⟨w.heap.size, 0, none⟩) 1 1) w1 K := by
  refine papp1 hT hw hown rfl hB (by omega) (by omega) ?_
  intro v' w' ho hf _
  refine hk v' w' ?_ hf
  have e : (xs ++ [x]).length = xs.length + 1 := by simp
  have e2 : (xs ++ [x]).map encI = xs.map encI ++ [.int .i64 x] := by simp [encI]
  unfold OwnI
  rw [e, e2]
  exact ho
theorem pappF2 {t ty : TypeId} (hT : ElT Try.prog t 3 1 8 (.int .i64 0)) {w w1 : World} {a : Option Addr} {n : Nat} {x : Int} {xs : List Int} (hw : w1 = w.alloc (.cells #[.int .i64 x] 3)) (hv : SlI w (.slice a n n) xs) (hn : n = xs.length) (hlen : xs.length ≤ 1000000) {K : Value → World → Prop}
    (hk : ∀ v' w', OwnI w' w.heap.size v' (xs ++ [x]) → Grow w w' → K v' w') : PApp Try.prog t ty (.slice a n n) (.slice (some ⟨w.heap.size, 0, none⟩) 1 1) w1 K := by
  cases a with
  | some b => exact pappF hT hw hv hn hlen hk
  | none =>
    obtain ⟨a', c', he, h1, h2, h3, h4⟩ := hv.ex
    simp only [Value.slice.injEq] at he
    have h0 : c' = 0 := h3 he.1.symm
    have : xs = [] := List.length_eq_zero_iff.1 (by omega)
    subst this
    have hn0 : n = 0 := by simpa using hn
    subst hn0
    refine pappT (xs := []) hT hw (Own.nil w w.heap.size _ 1) (Nat.le_refl _) (by simp) ?_
    intro v' w' ho hf
    exact hk v' w' ho ((alloc_grow hw).fr hf fun i hi e => by simp [Value.ownBlock] at e)
end Go.Proofs.Ytjkphmbjdleppaa
