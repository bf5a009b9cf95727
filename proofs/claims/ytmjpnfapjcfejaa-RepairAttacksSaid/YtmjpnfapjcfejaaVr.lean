/- Slices of the call's own whose elements are read by a relation: append, reading, what stays. No condition. -/
import Derived.Test.YtmjpnfapjcfejaaVp
import Derived.Test.YtmjpnfapjcfejaaVo
namespace Go.Proofs.Ytmjpnfapjcfejaa.VC
open Go Go.RowKit
set_option linter.unusedSimpArgs false
set_option linter.unusedVariables false

/-- append onto a slice of the call's own; where the result's array lies. -/
theorem pappk {P : Program} {t ty e : TypeId} {sz bytes : Nat} {z : Value} (hT : ElT P t e sz bytes z) (hsz : 0 < sz) {w : World} {B : Nat} {v x : Value} {n m : Nat} {xs news : List Value} (hown : Own w B e sz v n xs) (hx : SlC w x m news) (hm : news.length = m * sz) (h1 : ∀ u ∈ news, u.oneCell' = true)
    (hB : B ≤ w.heap.size) (hlen : (n + m) * bytes ≤ 140737488355328) (hb : 0 < bytes) {K : Value → World → Prop}
    (hk : ∀ v' w', Own w' B e sz v' (n + m) (xs ++ news) → Fr (fun k => some k = v.ownBlock) w w' → (v' = .slice none 0 0 → n + m = 0) → (∀ k, v'.ownBlock = some k → some k = v.ownBlock ∨ w.heap.size ≤ k) → K v' w') : PApp P t ty v x w K := by
  obtain ⟨i, hi, hz, hsize, hby⟩ := hT.info
  obtain ⟨a, c, rfl, hmc, hc, hnone, hcells⟩ := hx.ex
  cases a with
  | none =>
    have hc0 := hnone rfl
    subst hc0
    have hm0 : m = 0 := by omega
    subst hm0
    have hnews : news = [] := by simpa using hm
    subst hnews
    refine ⟨v, w, run_append_owned_none (P := P) w B t ty e i sz hT.und hi v n xs hown, hk _ _ (by simpa using hown) (Fr.refl _ _) ?_ (fun k hk => .inl hk.symm)⟩
    intro hv
    rcases hown.2 with ⟨_, h0⟩ | ⟨g, cap, cur, rfl, _⟩
    · simpa using h0
    · cases hv
  | some a =>
    have hnm : n + m ≤ maxLen := by
      simp only [maxLen]
      have : n + m ≤ (n + m) * bytes := Nat.le_mul_of_pos_right _ hb
      omega
    have hnews : ∀ j u, news[j]? = some u → w.cell? (a.add j) = some u := fun j u hj => by obtain ⟨b, hb', hcc⟩ := hcells j u hj; cases hb'; exact hcc
    obtain ⟨v', w', hr, ho, hg, hnil⟩ := run_append_own (P := P) w B t ty e i z sz bytes hT.und hi hz hsize hby hT.zs hsz v n xs hown a m c news hm hnews h1 hnm hlen hB
    refine ⟨v', w', hr, hk v' w' ho (Fr.of_grown hg) ?_ ?_⟩
    · intro hv
      have h2 := hnil.1 hv
      have hn0 : n = 0 := by
        rcases hown.2 with ⟨_, h0⟩ | ⟨g, cap, cur, rfl, _⟩
        · exact h0
        · cases h2.1
      omega
    · rcases hown.2 with ⟨rfl, rfl⟩ | ⟨g, cap, cur, rfl, hbg, hgg, hnc, hcm, hcs, htake⟩
      · have ho2 := run_append_own (P := P) w w.heap.size t ty e i z sz bytes hT.und hi hz hsize hby hT.zs hsz (.slice none 0 0) 0 xs ⟨hown.1, .inl ⟨rfl, rfl⟩⟩ a m c news hm hnews h1 hnm hlen (Nat.le_refl _)
        obtain ⟨v2, w2, hr2, ho2, _⟩ := ho2
        rw [hr] at hr2
        simp only [Result.ok.injEq] at hr2
        obtain ⟨rfl, rfl⟩ := hr2
        exact fun k hk => .inr (Own.lt ho2 hk).1
      · by_cases hroom : n + m ≤ cap
        · have hfit : n * i.size + news.length ≤ cur.size := by rw [hm, hsize, hcs, ← Nat.add_mul]; exact Nat.mul_le_mul_right _ hroom
          have hr2 := run_append_room (P := P) w t ty e i hT.und hi g n cap cur hgg a m c news (by rw [hsize]; exact hm) hnews h1 hroom hfit
          rw [hr] at hr2
          simp only [Result.ok.injEq] at hr2
          obtain ⟨rfl, rfl⟩ := hr2
          exact fun k hk => .inl hk.symm
        · have holds : ∀ j y, xs[j]? = some y → w.cell? ((⟨g, 0, none⟩ : Addr).add j) = some y := World.ownsRow.cells (g := g) hown rfl
          have hr2 := run_append_grow (P := P) w t ty e i z hT.und hi hz ⟨g, 0, none⟩ n cap xs (by rw [hsize]; exact hown.1) holds a m c news (by rw [hsize]; exact hm) hnews (by omega) (by simp only [maxLen] at hnm; omega) (growslice_fits (by omega) (by rw [hby]; exact hlen))
          rw [hr] at hr2
          simp only [Result.ok.injEq] at hr2
          obtain ⟨rfl, rfl⟩ := hr2
          exact fun k hk => .inr (by simp [Value.ownBlock] at hk; omega)

theorem flat_len' {α : Type} {f : α → List Value} {k : Nat} {xs : List α} (hf : ∀ x ∈ xs, (f x).length = k) : (xs.flatMap f).length = xs.length * k := by
  induction xs with
  | nil => simp
  | cons x r ih => rw [List.flatMap_cons, List.length_append, ih fun y hy => hf y (List.mem_cons_of_mem _ hy), hf x (List.mem_cons_self ..), List.length_cons, Nat.add_mul]; omega
theorem flat_get' {α : Type} {f : α → List Value} {k : Nat} {xs : List α} (hf : ∀ x ∈ xs, (f x).length = k) {i j : Nat} (hi : i < xs.length) (hj : j < k) : (xs.flatMap f)[i * k + j]? = (f xs[i])[j]? := by
  induction xs generalizing i with
  | nil => simp at hi
  | cons x r ih =>
    have hx := hf x (List.mem_cons_self ..)
    have hr : ∀ y ∈ r, (f y).length = k := fun y hy => hf y (List.mem_cons_of_mem _ hy)
    rw [List.flatMap_cons]
    cases i with
    | zero =>
      rw [List.getElem?_append_left (by rw [hx]; omega)]
      simp
    | succ i =>
      have e : (i + 1) * k + j = k + (i * k + j) := by rw [Nat.add_mul]; omega
      rw [e, List.getElem?_append_right (by rw [hx]; omega), hx, show k + (i * k + j) - k = i * k + j by omega, ih hr (by simpa using hi)]
      simp

/-- The blocks of T, and v's own, may have turned. -/
abbrev FrT (T : Nat → Prop) (v : Value) (w w' : World) : Prop := Fr (fun k => T k ∨ some k = v.ownBlock) w w'
abbrev FrO (v : Value) (w w' : World) : Prop := Fr (fun k => some k = v.ownBlock) w w'
/-- An element: its cells, and that they read as x as long as no block but those of T and v's own turns. -/
structure ElX {α : Type} (T : Nat → Prop) (k : Nat) (rep : World → List Value → α → Prop) (v : Value) (w : World) (p : List Value × α) : Prop where
  len : p.1.length = k
  one : ∀ u ∈ p.1, u.oneCell' = true
  rep : ∀ w', FrT T v w w' → rep w' p.1 p.2
/-- A slice of the call's own, whose elements of k cells are read by rep. -/
structure OwnX {α : Type} (T : Nat → Prop) (k : Nat) (rep : World → List Value → α → Prop) (w : World) (B : Nat) (e : TypeId) (v : Value) (xs : List α) : Prop where
  ex : ∃ ps : List (List Value × α), ps.map Prod.snd = xs ∧ (∀ p ∈ ps, ElX T k rep v w p) ∧ Own w B e k v xs.length (ps.flatMap Prod.fst)
section
variable {α : Type} {T : Nat → Prop} {k : Nat} {rep : World → List Value → α → Prop} {w w' : World} {B : Nat} {e : TypeId} {v : Value} {xs : List α}
theorem ElX.later {p : List Value × α} (h : ElX T k rep v w p) (hf : FrT T v w w') : ElX T k rep v w' p := ⟨h.len, h.one, fun w2 h2 => h.rep w2 (hf.trans h2)⟩
theorem ElX.grow {p : List Value × α} (h : ElX T k rep v w p) (hf : Grow w w') : ElX T k rep v w' p := h.later (Fr.of_grow hf)
theorem OwnX.nil (w : World) (B : Nat) (e : TypeId) : OwnX T k rep w B e (.slice none 0 0) [] := ⟨[], rfl, by simp, Own.nil _ _ _ _⟩
theorem OwnX.grow (h : OwnX T k rep w B e v xs) (hf : Grow w w') : OwnX T k rep w' B e v xs := by
  obtain ⟨ps, h1, h2, h3⟩ := h.ex
  exact ⟨ps, h1, fun p hp => (h2 p hp).grow hf, Own.grow h3 hf⟩
theorem OwnX.fr {S : Nat → Prop} (h : OwnX T k rep w B e v xs) (hf : Fr S w w') (hS : ∀ b, S b → T b) (ho : ∀ b, v.ownBlock = some b → ¬ S b) : OwnX T k rep w' B e v xs := by
  obtain ⟨ps, h1, h2, h3⟩ := h.ex
  exact ⟨ps, h1, fun p hp => (h2 p hp).later (hf.mono fun b _ hb => .inl (hS b hb)), Own.fr h3 hf ho⟩
theorem OwnX.weaken {T' : Nat → Prop} (h : OwnX T k rep w B e v xs) (hT : ∀ b, T' b → T b) : OwnX T' k rep w B e v xs := by
  obtain ⟨ps, h1, h2, h3⟩ := h.ex
  exact ⟨ps, h1, fun p hp => ⟨(h2 p hp).len, (h2 p hp).one, fun w2 hf => (h2 p hp).rep w2 (hf.mono fun b _ hb => hb.imp (hT b) id)⟩, h3⟩
theorem OwnX.dr (h : OwnX T k rep w B e v xs) (m : Nat) : OwnX T k rep (dr w m) B e v xs := h.grow ((Grow.refl w).dr m)
theorem OwnX.base (h : OwnX T k rep w B e v xs) {B' : Nat} (hB : B' ≤ B) : OwnX T k rep w B' e v xs := by
  obtain ⟨ps, h1, h2, h3⟩ := h.ex
  exact ⟨ps, h1, h2, Own.mono h3 hB⟩
theorem OwnX.lt (h : OwnX T k rep w B e v xs) {b : Nat} (hb : v.ownBlock = some b) : B ≤ b ∧ b < w.heap.size := by
  obtain ⟨ps, h1, h2, h3⟩ := h.ex
  exact Own.lt h3 hb
theorem OwnX.one (h : OwnX T k rep w B e v xs) : oneV v := by
  obtain ⟨ps, h1, h2, h3⟩ := h.ex
  exact Own.one h3
theorem SlX.of_cells {ps : List (List Value × α)} (hk : ∀ p ∈ ps, p.1.length = k ∧ rep w p.1 p.2) (hs : SlC w v ps.length (ps.flatMap Prod.fst)) : SlX k rep w v (ps.map Prod.snd) := by
  obtain ⟨a, c, rfl, h1, h2, h3, h4⟩ := hs.ex
  refine ⟨a, c, by simp, by simpa using h1, h2, h3, fun i hi => ?_⟩
  have hi' : i < ps.length := by simpa using hi
  have hp := hk _ (List.getElem_mem hi')
  have hb : ∃ b, a = some b := by
    cases a with
    | none => have := h3 rfl; omega
    | some b => exact ⟨b, rfl⟩
  obtain ⟨b, rfl⟩ := hb
  refine ⟨b, ps[i].1, rfl, hp.1, fun t u ht => ?_, by simpa using hp.2⟩
  have htk : t < k := by
    have := (List.getElem?_eq_some_iff.1 ht).1
    omega
  obtain ⟨b', hb, hc⟩ := h4 (i * k + t) u (by rw [flat_get' (fun p hp => (hk p hp).1) hi' htk]; exact ht)
  cases hb
  exact hc
theorem OwnX.slX (h : OwnX T k rep w B e v xs) : SlX k rep w v xs := by
  obtain ⟨ps, rfl, h2, h3⟩ := h.ex
  have := h3.slC
  rw [List.length_map] at this
  exact SlX.of_cells (fun p hp => ⟨(h2 p hp).len, (h2 p hp).rep w (Fr.refl _ _)⟩) this
theorem OwnX.ln (h : OwnX T k rep w B e v xs) {K : Nat → Prop} (hk : K xs.length) : ∃ (a : Option Addr) (m c : Nat), v = .slice a m c ∧ K m := h.slX.ln hk
/-- append of elements that a slice holds. -/
theorem pappX {P : Program} {t ty : TypeId} {bytes : Nat} {z : Value} (hT : ElT P t e k bytes z) (hsz : 0 < k) {x : Value} {qs : List (List Value × α)} (hown : OwnX T k rep w B e v xs) (hx : SlC w x qs.length (qs.flatMap Prod.fst)) (hq : ∀ q ∈ qs, ElX T k rep v w q)
    (hB : B ≤ w.heap.size) (hlen : (xs.length + qs.length) * bytes ≤ 140737488355328) (hb : 0 < bytes) {K : Value → World → Prop}
    (hk : ∀ v' w', OwnX T k rep w' B e v' (xs ++ qs.map Prod.snd) → FrO v w w' → (v' = .slice none 0 0 → xs.length + qs.length = 0) → (∀ b, v'.ownBlock = some b → some b = v.ownBlock ∨ w.heap.size ≤ b) → K v' w') : PApp P t ty v x w K := by
  obtain ⟨ps, h1, h2, h3⟩ := hown.ex
  refine pappk hT hsz h3 hx (flat_len' fun q hq' => (hq q hq').len) (fun u hu => ?_) hB hlen hb ?_
  · obtain ⟨q, hq', hu⟩ := List.mem_flatMap.1 hu
    exact (hq q hq').one u hu
  · intro v' w' ho hf hn hblk
    refine hk v' w' ⟨ps ++ qs, by rw [List.map_append, h1], fun p hp => ?_, ?_⟩ hf hn hblk
    · have hp : ElX T k rep v w p := by
        rcases List.mem_append.1 hp with hp | hp
        · exact h2 p hp
        · exact hq p hp
      refine ⟨hp.len, hp.one, fun w2 h4 => hp.rep w2 ?_⟩
      have h5 : Fr (fun j => w.heap.size ≤ j ∨ T j ∨ some j = v.ownBlock) w' w2 := h4.mono fun j _ hj => by
        rcases hj with hj | hj
        · exact .inr (.inl hj)
        · rcases hblk j hj.symm with h | h
          · exact .inr (.inr h)
          · exact .inl h
      exact Fr.mono ((hf.mono fun j _ hj => .inr (.inr hj)).trans h5) fun j hj h => by
        rcases h with h | h
        · omega
        · exact h
    · rw [List.flatMap_append, List.length_append, List.length_map]
      exact ho
/-- append of one element, out of a literal of one. -/
theorem pappX1 {P : Program} {t ty : TypeId} {bytes : Nat} {z : Value} (hT : ElT P t e k bytes z) (hsz : 0 < k) {cs : List Value} {y : α} (hown : OwnX T k rep w B e v xs) {w1 : World} (hw : w1 = w.alloc (.cells cs.toArray e)) (hy : ElX T k rep v w (cs, y))
    (hB : B ≤ w.heap.size) (hlen : (xs.length + 1) * bytes ≤ 140737488355328) (hb : 0 < bytes) {K : Value → World → Prop}
    (hk : ∀ v' w', OwnX T k rep w' B e v' (xs ++ [y]) → FrO v w1 w' → v' ≠ .slice none 0 0 → (∀ b, v'.ownBlock = some b → some b = v.ownBlock ∨ w.heap.size ≤ b) → K v' w') : PApp P t ty v (.slice (some ⟨w.heap.size, 0, none⟩) 1 1) w1 K := by
  have hl := Own.lit (B := w.heap.size) (n := 1) (sz := k) hw (Nat.le_refl _) (by omega) (by simpa using hy.len)
  have hg := alloc_grow hw
  have hs := alloc_size hw
  refine pappX (qs := [(cs, y)]) hT hsz (hown.grow hg) (by simpa using hl.slC) (fun q hq => ?_) (by omega) hlen hb ?_
  · have : q = (cs, y) := by simpa using hq
    subst this
    exact hy.grow hg
  · intro v' w' ho hf hn hblk
    refine hk v' w' (by simpa using ho) hf (fun e => ?_) fun b hb => ?_
    · have := hn e; simp at this
    · rcases hblk b hb with h | h
      · exact .inl h
      · exact .inr (by omega)
end
end Go.Proofs.Ytmjpnfapjcfejaa.VC
