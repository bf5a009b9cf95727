/- append of one element, and whether the result shares its array with what it was appended to: for functions that append to one slice again and again. No condition. -/
import Derived.Test.YtddpjdlhgggbkaaVm
namespace Go.Proofs.Ytddpjdlhgggbkaa.VC
open Go Go.RowKit
set_option linter.unusedSimpArgs false
set_option linter.unusedVariables false

/-- v' came of v by append: in v's array, or in a new one. -/
def Kin (w w' : World) (v v' : Value) (n : Nat) : Prop :=
  (∃ g cap, v = .slice (some ⟨g, 0, none⟩) n cap ∧ v' = .slice (some ⟨g, 0, none⟩) (n + 1) cap) ∨ (∃ k, v'.ownBlock = some k ∧ w.heap.size ≤ k ∧ Grow w w')
theorem papp1k {P : Program} {t ty e : TypeId} {bytes : Nat} {z : Value} (hT : ElT P t e 1 bytes z) {w w1 : World} {B : Nat} {v u : Value} {n : Nat} {xs : List Value} (hw : w1 = w.alloc (.cells #[u] e)) (hown : Own w B e 1 v n xs) (hu : u.oneCell' = true)
    (hB : B ≤ w.heap.size) (hlen : (n + 1) * bytes ≤ 140737488355328) (hb : 0 < bytes) {K : Value → World → Prop}
    (hk : ∀ v' w', Own w' B e 1 v' (n + 1) (xs ++ [u]) → Fr (fun k => some k = v.ownBlock) w1 w' → Kin w1 w' v v' n → K v' w') : PApp P t ty v (.slice (some ⟨w.heap.size, 0, none⟩) 1 1) w1 K := by
  obtain ⟨i, hi, hz, hsize, hby⟩ := hT.info
  have hown1 := hown.grow (alloc_grow hw)
  have hB1 : B ≤ w1.heap.size := by rw [alloc_size hw]; omega
  have hn : ∀ j y, [u][j]? = some y → w1.cell? ((⟨w.heap.size, 0, none⟩ : Addr).add j) = some y := fun j y hj => by
    obtain ⟨hj1, hj2⟩ := List.getElem?_eq_some_iff.1 hj
    have hj0 : j = 0 := by simpa using hj1
    subst hj0
    simp at hj2
    subst hj2
    exact alloc_cell0 hw
  have h1 : ∀ y ∈ [u], y.oneCell' = true := fun y hy => by
    have : y = u := by simpa using hy
    rw [this]; exact hu
  have hnl : n + 1 ≤ (n + 1) * bytes := Nat.le_mul_of_pos_right _ hb
  have hnm : n + 1 ≤ maxLen := by simp only [maxLen]; omega
  obtain ⟨v', w', hr, ho, hg, hnil⟩ := run_append_own (P := P) w1 B t ty e i z 1 bytes hT.und hi hz hsize hby hT.zs (by omega) v n xs hown1 _ 1 1 [u] (by simp) hn h1 hnm hlen hB1
  refine ⟨v', w', hr, hk v' w' ho (Fr.of_grown hg) ?_⟩
  have fresh : ∀ (a : Nat) (o : Obj), v'.ownBlock = some w1.heap.size → w' = w1.drew.alloc o → Kin w1 w' v v' n := fun a o h1 h2 => by
    refine .inr ⟨_, h1, Nat.le_refl _, ?_⟩
    subst h2
    exact (Below.drew (Grow.refl w1)).alloc (Nat.le_refl _) _
  rcases hown1.2 with ⟨rfl, rfl⟩ | ⟨g, cap, cur, rfl, hbg, hgg, hnc, hcm, hcs, htake⟩
  · have hr2 := run_append_nil (P := P) w1 t ty e i z hT.und hi hz _ 1 1 [u] (by simp [hsize]) hn (by omega) (by omega) (by rw [hby]; omega)
    rw [hr] at hr2
    simp only [Result.ok.injEq] at hr2
    obtain ⟨rfl, rfl⟩ := hr2
    exact fresh 0 _ rfl rfl
  · by_cases hroom : n + 1 ≤ cap
    · have hfit : n * i.size + [u].length ≤ cur.size := by rw [hsize, hcs]; simp; omega
      have hr2 := run_append_room (P := P) w1 t ty e i hT.und hi g n cap cur hgg _ 1 1 [u] (by simp [hsize]) hn h1 hroom hfit
      rw [hr] at hr2
      simp only [Result.ok.injEq] at hr2
      obtain ⟨rfl, rfl⟩ := hr2
      exact .inl ⟨g, cap, rfl, rfl⟩
    · have holds : ∀ j y, xs[j]? = some y → w1.cell? ((⟨g, 0, none⟩ : Addr).add j) = some y := World.ownsRow.cells (g := g) hown1 rfl
      have hr2 := run_append_grow (P := P) w1 t ty e i z hT.und hi hz ⟨g, 0, none⟩ n cap xs (by rw [hsize]; exact hown1.1) holds _ 1 1 [u] (by simp [hsize]) hn (by omega) (by omega) (growslice_fits (by omega) (by rw [hby]; exact hlen))
      rw [hr] at hr2
      simp only [Result.ok.injEq] at hr2
      obtain ⟨rfl, rfl⟩ := hr2
      exact fresh 0 _ rfl rfl
/-- What was appended to reads as it did, once the result does. -/
theorem kin_back {S : Nat → Prop} {w w' w2 : World} {B : Nat} {e : TypeId} {v v' u : Value} {n : Nat} {xs : List Value} (hk : Kin w w' v v' n) (ho : Own w B e 1 v n xs) (ho2 : Own w2 B e 1 v' (n + 1) (xs ++ [u])) (hf : Fr S w' w2)
    (hs : ∀ k, S k → some k = v'.ownBlock ∨ v.ownBlock ≠ some k) : Own w2 B e 1 v n xs := by
  rcases hk with ⟨g, cap, rfl, rfl⟩ | ⟨k, hv', hk, hg⟩
  · refine ⟨ho.1, .inr ?_⟩
    rcases ho2.2 with ⟨h, _⟩ | ⟨g', cap', cur, he, hb, hgg, hnc, hcm, hcs, htake⟩
    · cases h
    · simp only [Value.slice.injEq, Option.some.injEq, Addr.mk.injEq, and_true, true_and] at he
      obtain ⟨rfl, rfl⟩ := he
      refine ⟨g, cap, cur, rfl, hb, hgg, by omega, hcm, hcs, ?_⟩
      have hl := ho.1
      have h3 := congrArg (List.take (n * 1)) htake
      rw [List.take_take] at h3
      have e1 : min (n * 1) ((n + 1) * 1) = n * 1 := by omega
      rw [e1] at h3
      rw [h3, ← hl]
      simp
  · refine (ho.grow hg).fr hf fun j hj hsj => ?_
    have hlt := (Own.lt ho hj).2
    rcases hs j hsj with h | h
    · rw [hv'] at h
      simp at h; omega
    · exact h hj
end Go.Proofs.Ytddpjdlhgggbkaa.VC
