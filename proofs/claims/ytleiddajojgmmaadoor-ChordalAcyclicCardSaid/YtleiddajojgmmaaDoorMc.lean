/- Slices of the call's own whose elements are read by a relation: append, reading, what stays. No condition. -/
import Derived.Test.YtleiddajojgmmaaDoorGm
import Derived.Test.YtleiddajojgmmaaDoorCb
import Derived.Test.YtleiddajojgmmaaDoorGs
namespace Go.Proofs.YtleiddajojgmmaaDoor.VC
open Go Go.RowKit
set_option linter.unusedSimpArgs false
set_option linter.unusedVariables false

/-- append onto a slice of the call's own; where the result's array lies. -/
theorem pappk {P : Program} {t ty e : TypeId} {sz bytes : Nat} {z : Value} (hT : ElT P t e sz bytes z) (hsz : 0 < sz) {w : World} {B : Nat} {v x : Value} {n m : Nat} {xs news : List Value} (hown : Own w B e sz v n xs) (hx : SlC w x m news) (hm : news.length = m * sz) (h1 : ∀ u ∈ news, u.oneCell' = true)
    (hB : B ≤ w.heap.size) (hlen : (n + m) * bytes ≤ 140737488355328) (hb : 0 < bytes) {K : Value → World → Prop}
    (hk : ∀ v' w', Own w' B e sz v' (n + m) (xs ++ news) → Fr (fun k => some k = v.ownBlock) w w' → (v' = .slice none 0 0 → n + m = 0) → (∀ k, v'.ownBlock = some k → some k = v.ownBlock ∨ w.heap.size ≤ k) → K v' w') : PApp P t ty v x w K := by
  obtain ⟨i, hi, hz, hsize, hby⟩ := hT.info
  obtain ⟨a, c, rfl, hmc, hc, hnone, hcells⟩ := hx.ex
  cases a with
  | none =>
    have hc0 := hnone rfl
    subst hc0
    have hm0 : m = 0 := by omega
    subst hm0
    have hnews : news = [] := by simpa using hm
    subst hnews
    refine ⟨v, w, run_append_owned_none (P := P) w B t ty e i sz hT.und hi v n xs hown, hk _ _ (by simpa using hown) (Fr.refl _ _) ?_ (fun k hk => .inl hk.symm)⟩
    intro hv
    rcases hown.2 with ⟨_, h0⟩ | ⟨g, cap, cur, rfl, _⟩
    · simpa using h0
    · cases hv
  | some a =>
    have hnm : n + m ≤ maxLen := by
      simp only [maxLen]
      have : n + m ≤ (n + m) * bytes := Nat.le_mul_of_pos_right _ hb
      omega
    have hnews : ∀ j u, news[j]? = some u → w.cell? (a.add j) = some u := fun j u hj => by obtain ⟨b, hb', hcc⟩ := hcells j u hj; cases hb'; exact hcc
    obtain ⟨v', w', hr, ho, hg, hnil⟩ := run_append_own (P := P) w B t ty e i z sz bytes hT.und hi hz hsize hby hT.zs hsz v n xs hown a m c news hm hnews h1 hnm hlen hB
    refine ⟨v', w', hr, hk v' w' ho (Fr.of_grown hg) ?_ ?_⟩
    · intro hv
      have h2 := hnil.1 hv
      have hn0 : n = 0 := by
        rcases hown.2 with ⟨_, h0⟩ | ⟨g, cap, cur, rfl, _⟩
        · exact h0
        · cases h2.1
      omega
    · rcases hown.2 with ⟨rfl, rfl⟩ | ⟨g, cap, cur, rfl, hbg, hgg, hnc, hcm, hcs, htake⟩
      · have ho2 := run_append_own (P := P) w w.heap.size t ty e i z sz bytes hT.und hi hz hsize hby hT.zs hsz (.slice none 0 0) 0 xs ⟨hown.1, .inl ⟨rfl, rfl⟩⟩ a m c news hm hnews h1 hnm hlen (Nat.le_refl _)
        obtain ⟨v2, w2, hr2, ho2, _⟩ := ho2
        rw [hr] at hr2
        simp only [Result.ok.injEq] at hr2
        obtain ⟨rfl, rfl⟩ := hr2
        exact fun k hk => .inr (Own.lt ho2 hk).1
      · by_cases hroom : n + m ≤ cap
        · have hfit : n * i.size + news.length ≤ cur.size := by rw [hm, hsize, hcs, ← Nat.add_mul]; exact Nat.mul_le_mul_right _ hroom
          have hr2 := run_append_room (P := P) w t ty e i hT.und hi g n cap cur hgg a m c news (by rw [hsize]; exact hm) hnews h1 hroom hfit
          rw [hr] at hr2
          simp only [Result.ok.injEq] at hr2
          obtain ⟨rfl, rfl⟩ := hr2
          exact fun k hk => .inl hk.symm
        · have holds : ∀ j y, xs[j]? = some y → w.cell? ((⟨g, 0, none⟩ : Addr).add j) = some y := World.ownsRow.cells (g := g) hown rfl
          have hr2 := run_append_grow (P := P) w t ty e i z hT.und hi hz ⟨g, 0, none⟩ n cap xs (by rw [hsize]; exact hown.1) holds a m c news (by rw [hsize]; exact hm) hnews (by omega) (by simp only [maxLen] at hnm; omega) (growslice_fits (by omega) (by rw [hby]; exact hlen))
          rw [hr] at hr2
          simp only [Result.ok.injEq] at hr2
          obtain ⟨rfl, rfl⟩ := hr2
          exact fun k hk => .inr (by simp [Value.ownBlock] at hk; omega)

theorem flat_len' {α : Type} {f : α → List Value} {k : Nat} {xs : List α} (hf : ∀ x ∈ xs, (f x).length = k) : (xs.flatMap f).length = xs.length * k := by
  induction xs with
  | nil => simp
  | cons x r ih => rw [List.flatMap_cons, List.length_append, ih fun y hy => hf y (List.mem_cons_of_mem _ hy), hf x (List.mem_cons_self ..), List.length_cons, Nat.add_mul]; omega
theorem flat_get' {α : Type} {f : α → List Value} {k : Nat} {xs : List α} (hf : ∀ x ∈ xs, (f x).length = k) {i j : Nat} (hi : i < xs.length) (hj : j < k) : (xs.flatMap f)[i * k + j]? = (f xs[i])[j]? := by
  induction xs generalizing i with
  | nil => simp at hi
  | cons x r ih =>
    have hx := hf x (List.mem_cons_self ..)
    have hr : ∀ y ∈ r, (f y).length = k := fun y hy => hf y (List.mem_cons_of_mem _ hy)
    rw [List.flatMap_cons]
    cases i with
    | zero =>
      rw [List.getElem?_append_left (by rw [hx]; omega)]
      simp
    | succ i =>
      have e : (i + 1) * k + j = k + (i * k + j) := by rw [Nat.add_mul]; omega
      rw [e, List.getElem?_append_right (by rw [hx]; omega), hx, show k + (i * k + j) - k = i * k + j by omega, ih hr (by simpa using hi)]
      simp

/-- The blocks of T, and v's own, may have turned. -/
abbrev FrT (T : Nat → Prop) (v : Value) (w w' : World) : Prop := Fr (fun k => T k ∨ some k = v.ownBlock) w w'
abbrev FrO (v : Value) (w w' : World) : Prop := Fr (fun k => some k = v.ownBlock) w w'
/-- An element: its cells, and that they read as x as long as no block but those of T and v's own turns. -/
structure ElX {α : Type} (T : Nat → Prop) (k : Nat) (rep : World → List Value → α → Prop) (v : Value) (w : World) (p : List Value × α) : Prop where
  len : p.1.length = k
  one : ∀ u ∈ p.1, u.oneCell' = true
  rep : ∀ w', FrT T v w w' → rep w' p.1 p.2
/-- A slice of the call's own, whose elements of k cells are read by rep. -/
structure OwnX {α : Type} (T : Nat → Prop) (k : Nat) (rep : World → List Value → α → Prop) (w : World) (B : Nat) (e : TypeId) (v : Value) (xs : List α) : Prop where
  ex : ∃ ps : List (List Value × α), ps.map Prod.snd = xs ∧ (∀ p ∈ ps, ElX T k rep v w p) ∧ Own w B e k v xs.length (ps.flatMap Prod.fst)
section
variable {α : Type} {T : Nat → Prop} {k : Nat} {rep : World → List Value → α → Prop} {w w' : World} {B : Nat} {e : TypeId} {v : Value} {xs : List α}
theorem ElX.later {p : List Value × α} (h : ElX T k rep v w p) (hf : FrT T v w w') : ElX T k rep v w' p := ⟨h.len, h.one, fun w2 h2 => h.rep w2 (hf.trans h2)⟩
theorem ElX.grow {p : List Value × α} (h : ElX T k rep v w p) (hf : Grow w w') : ElX T k rep v w' p := h.later (Fr.of_grow hf)
theorem OwnX.nil (w : World) (B : Nat) (e : TypeId) : OwnX T k rep w B e (.slice none 0 0) [] := ⟨[], rfl, by simp, Own.nil _ _ _ _⟩
theorem OwnX.grow (h : OwnX T k rep w B e v xs) (hf : Grow w w') : OwnX T k rep w' B e v xs := by
  obtain ⟨ps, h1, h2, h3⟩ := h.ex
  exact ⟨ps, h1, fun p hp => (h2 p hp).grow hf, Own.grow h3 hf⟩
theorem OwnX.fr {S : Nat → Prop} (h : OwnX T k rep w B e v xs) (hf : Fr S w w') (hS : ∀ b, S b → T b) (ho : ∀ b, v.ownBlock = some b → ¬ S b) : OwnX T k rep w' B e v xs := by
  obtain ⟨ps, h1, h2, h3⟩ := h.ex
  exact ⟨ps, h1, fun p hp => (h2 p hp).later (hf.mono fun b _ hb => .inl (hS b hb)), Own.fr h3 hf ho⟩
theorem OwnX.weaken {T' : Nat → Prop} (h : OwnX T k rep w B e v xs) (hT : ∀ b, T' b → T b) : OwnX T' k rep w B e v xs := by
  obtain ⟨ps, h1, h2, h3⟩ := h.ex
  exact ⟨ps, h1, fun p hp => ⟨(h2 p hp).len, (h2 p hp).one, fun w2 hf => (h2 p hp).rep w2 (hf.mono fun b _ hb => hb.imp (hT b) id)⟩, h3⟩
theorem OwnX.dr (h : OwnX T k rep w B e v xs) (m : Nat) : OwnX T k rep (dr w m) B e v xs := h.grow ((Grow.refl w).dr m)
theorem OwnX.base (h : OwnX T k rep w B e v xs) {B' : Nat} (hB : B' ≤ B) : OwnX T k rep w B' e v xs := by
  obtain ⟨ps, h1, h2, h3⟩ := h.ex
  exact ⟨ps, h1, h2, Own.mono h3 hB⟩
theorem OwnX.lt (h : OwnX T k rep w B e v xs) {b : Nat} (hb : v.ownBlock = some b) : B ≤ b ∧ b < w.heap.size := by
  obtain ⟨ps, h1, h2, h3⟩ := h.ex
  exact Own.lt h3 hb
theorem OwnX.one (h : OwnX T k rep w B e v xs) : oneV v := by
  obtain ⟨ps, h1, h2, h3⟩ := h.ex
  exact Own.one h3
theorem SlX.of_cells {ps : List (List Value × α)} (hk : ∀ p ∈ ps, p.1.length = k ∧ rep w p.1 p.2) (hs : SlC w v ps.length (ps.flatMap Prod.fst)) : SlX k rep w v (ps.map Prod.snd) := by
  obtain ⟨a, c, rfl, h1, h2, h3, h4⟩ := hs.ex
  refine ⟨a, c, by simp, by simpa using h1, h2, h3, fun i hi => ?_⟩
  have hi' : i < ps.length := by simpa using hi
  have hp := hk _ (List.getElem_mem hi')
  have hb : ∃ b, a = some b := by
    cases a with
    | none => have := h3 rfl; omega
    | some b => exact ⟨b, rfl⟩
  obtain ⟨b, rfl⟩ := hb
  refine ⟨b, ps[i].1, rfl, hp.1, fun t u ht => ?_, by simpa using hp.2⟩
  have htk : t < k := by
    have := (List.getElem?_eq_some_iff.1 ht).1
    omega
  obtain ⟨b', hb, hc⟩ := h4 (i * k + t) u (by rw [flat_get' (fun p hp => (hk p hp).1) hi' htk]; exact ht)
  cases hb
  exact hc
theorem OwnX.slX (h : OwnX T k rep w B e v xs) : SlX k rep w v xs := by
  obtain ⟨ps, rfl, h2, h3⟩ := h.ex
  have := h3.slC
  rw [List.length_map] at this
  exact SlX.of_cells (fun p hp => ⟨(h2 p hp).len, (h2 p hp).rep w (Fr.refl _ _)⟩) this
theorem OwnX.ln (h : OwnX T k rep w B e v xs) {K : Nat → Prop} (hk : K xs.length) : ∃ (a : Option Addr) (m c : Nat), v = .slice a m c ∧ K m := h.slX.ln hk
/-- append of elements that a slice holds. -/
theorem pappX {P : Program} {t ty : TypeId} {bytes : Nat} {z : Value} (hT : ElT P t e k bytes z) (hsz : 0 < k) {x : Value} {qs : List (List Value × α)} (hown : OwnX T k rep w B e v xs) (hx : SlC w x qs.length (qs.flatMap Prod.fst)) (hq : ∀ q ∈ qs, ElX T k rep v w q)
    (hB : B ≤ w.heap.size) (hlen : (xs.length + qs.length) * bytes ≤ 140737488355328) (hb : 0 < bytes) {K : Value → World → Prop}
    (hk : ∀ v' w', OwnX T k rep w' B e v' (xs ++ qs.map Prod.snd) → FrO v w w' → (v' = .slice none 0 0 → xs.length + qs.length = 0) → (∀ b, v'.ownBlock = some b → some b = v.ownBlock ∨ w.heap.size ≤ b) → K v' w') : PApp P t ty v x w K := by
  obtain ⟨ps, h1, h2, h3⟩ := hown.ex
  refine pappk hT hsz h3 hx (flat_len' fun q hq' => (hq q hq').len) (fun u hu => ?_) hB hlen hb ?_
  · obtain ⟨q, hq', hu⟩ := List.mem_flatMap.1 hu
    exact (hq q hq').one u hu
  · intro v' w' ho hf hn hblk
    refine hk v' w' ⟨ps ++ qs, by rw [List.map_append, h1], fun p hp => ?_, ?_⟩ hf hn hblk
    · have hp : ElX T k rep v w p := by
        rcases List.mem_append.1 hp with hp | hp
        · exact h2 p hp
        · exact hq p hp
      refine ⟨hp.len, hp.one, fun w2 h4 => hp.rep w2 ?_⟩
      have h5 : Fr (fun j => w.heap.size ≤ j ∨ T j ∨ some j = v.ownBlock) w' w2 := h4.mono fun j _ hj => by
        rcases hj with hj | hj
        · exact .inr (.inl hj)
        · rcases hblk j hj.symm with h | h
          · exact .inr (.inr h)
          · exact .inl h
      exact Fr.mono ((hf.mono fun j _ hj => .inr (.inr hj)).trans h5) fun j hj h => by
        rcases h with h | h
        · omega
        · exact h
    · rw [List.flatMap_append, List.length_append, List.length_map]
      exact ho
/-- append of one element, out of a literal of one. -/
theorem pappX1 {P : Program} {t ty : TypeId} {bytes : Nat} {z : Value} (hT : ElT P t e k bytes z) (hsz : 0 < k) {cs : List Value} {y : α} (hown : OwnX T k rep w B e v xs) {w1 : World} (hw : w1 = w.alloc (.cells cs.toArray e)) (hy : ElX T k rep v w (cs, y))
    (hB : B ≤ w.heap.size) (hlen : (xs.length + 1) * bytes ≤ 140737488355328) (hb : 0 < bytes) {K : Value → World → Prop}
    (hk : ∀ v' w', OwnX T k rep w' B e v' (xs ++ [y]) → FrO v w1 w' → v' ≠ .slice none 0 0 → (∀ b, v'.ownBlock = some b → some b = v.ownBlock ∨ w.heap.size ≤ b) → K v' w') : PApp P t ty v (.slice (some ⟨w.heap.size, 0, none⟩) 1 1) w1 K := by
  have hl := Own.lit (B := w.heap.size) (n := 1) (sz := k) hw (Nat.le_refl _) (by omega) (by simpa using hy.len)
  have hg := alloc_grow hw
  have hs := alloc_size hw
  refine pappX (qs := [(cs, y)]) hT hsz (hown.grow hg) (by simpa using hl.slC) (fun q hq => ?_) (by omega) hlen hb ?_
  · have : q = (cs, y) := by simpa using hq
    subst this
    exact hy.grow hg
  · intro v' w' ho hf hn hblk
    refine hk v' w' (by simpa using ho) hf (fun e => ?_) fun b hb => ?_
    · have := hn e; simp at this
    · rcases hblk b hb with h | h
      · exact .inl h
      · exact .inr (by omega)
end
end Go.Proofs.YtleiddajojgmmaaDoor.VC

/- Contracts of leaves: slices of ints (search, clone, equal, compare, least, greatest), atoms and facts, and how they lie in memory. No condition. -/
namespace Go.Proofs.YtleiddajojgmmaaDoor
open Go Go.RowKit VC
set_option linter.unusedSimpArgs false
set_option linter.unusedVariables false

/-- It returns v, and nothing that was there has turned. -/
def Ret (w : World) (v : Value) : Ending → World → Prop := fun e w' => e = .returned v ∧ Grow w w'
theorem el_int : ElT Tryd.prog 22 3 1 8 (.int .i64 0) := ⟨by kernel_rfl, ⟨Tryd.t3, by kernel_rfl, by kernel_rfl, by kernel_rfl, by kernel_rfl⟩, rfl⟩
abbrev OwnI (w : World) (B : Nat) (v : Value) (xs : List Int) : Prop := Own w B 3 1 v xs.length (xs.map VC.encI)
/-- A record that was boxed. -/
theorem boxc {w w1 : World} {cs : Array Value} {t : TypeId} (hw : w1 = w.alloc (.cells cs t)) (j : Nat) (v : Value) (h : cs[j]? = some v) : w1.cell? (Addr.add ⟨w.heap.size, 0, none⟩ j) = some v := by
  rw [Addr.add0, alloc_cell hw]; exact h
/-! ## Ints -/
def Asks (w : World) (f : Value) (xs : List Int) (p : Int → Bool) : Prop :=
  ∃ g fst cap, f = .func (.func g) fst cap ∧ callOK g = true ∧ ∀ x ∈ xs, ∀ w', Grow w w' → Calls Tryd.prog g (fst ++ #[.int .i64 x] ++ cap) w' (Ret w' (.bool (p x)))
def idxOf {α : Type} (p : α → Bool) (xs : List α) : Int := match xs.findIdx? p with | some i => i | none => -1
theorem idxOf_any {α : Type} (p : α → Bool) (xs : List α) : decide (0 ≤ idxOf p xs) = xs.any p := by
  unfold idxOf
  cases h : xs.findIdx? p with
  | none =>
    have := List.findIdx?_eq_none_iff.1 h
    have : xs.any p = false := List.any_eq_false.2 fun x hx => by simp [this x hx]
    simp [this]
  | some i =>
    obtain ⟨hi, hp, _⟩ := List.findIdx?_eq_some_iff_getElem.1 h
    have : xs.any p = true := List.any_eq_true.2 ⟨xs[i], List.getElem_mem hi, hp⟩
    simp [this]
theorem idxOf_some {α : Type} {p : α → Bool} {xs : List α} {k : Nat} (hk : k < xs.length) (hp : p xs[k] = true) (hno : ∀ j (hj : j < xs.length), j < k → p xs[j] = false) : idxOf p xs = (k : Int) := by
  have : xs.findIdx? p = some k := List.findIdx?_eq_some_iff_getElem.2 ⟨hk, hp, fun j hj => by simpa using hno j (by omega) hj⟩
  rw [idxOf, this]
theorem idxOf_none {α : Type} {p : α → Bool} {xs : List α} (hno : ∀ j (hj : j < xs.length), p xs[j] = false) : idxOf p xs = -1 := by
  have : xs.findIdx? p = none := List.findIdx?_eq_none_iff.2 fun x hx => by
    obtain ⟨j, hj, rfl⟩ := List.mem_iff_getElem.1 hx
    exact hno j hj
  rw [idxOf, this]
theorem indexFunc_c {w : World} {v f : Value} {xs : List Int} {p : Int → Bool} (hs : SlI w v xs) (hf : Asks w f xs p) : Calls Tryd.prog 35 #[v, f] w (Ret w (.int .i64 (idxOf p xs))) := by
  refine f35_calls _ _ ?_
  obtain ⟨g, fst, cap, rfl, hg, hcall⟩ := hf
  have hle := hs.len_le
  refine hs.ln ⟨fun t w' => ∃ k : Nat, t = k ∧ k ≤ xs.length ∧ Grow w w' ∧ ∀ j (hj : j < xs.length), j < k → p xs[j] = false, fun t _ => xs.length - t.toNat, ⟨0, rfl, by omega, Grow.refl w, fun j _ h => by omega⟩, ?_⟩
  rintro - t w1 ⟨k, rfl, hk, hw, hno⟩
  refine condD (fun hlt => ?_) (fun hge => ?_)
  · have hkl : k < xs.length := by omega
    refine (hs.grow hw).rd rfl hkl ⟨g, fst, cap, rfl, hg, ?_⟩
    refine (hcall xs[k] (List.getElem_mem hkl) w1 hw).mono ?_
    rintro e w2 ⟨rfl, hg2⟩
    refine ⟨_, rfl, condP_i (fun hp => ?_) (fun hp => ?_)⟩
    · exact ⟨by rw [idxOf_some hkl hp hno], hw.trans hg2⟩
    · refine ⟨by unfold inR; omega, ⟨k + 1, by omega, by omega, hw.trans hg2, fun j hj hjk => ?_⟩, by dsimp only; omega⟩
      by_cases e : j = k
      · subst e; exact hp
      · exact hno j hj (by omega)
  · exact ⟨by rw [idxOf_none fun j hj => hno j hj (by omega)], hw⟩
theorem containsFunc_c {w : World} {v f : Value} {xs : List Int} {p : Int → Bool} (hs : SlI w v xs) (hf : Asks w f xs p) : Calls Tryd.prog 41 #[v, f] w (Ret w (.bool (xs.any p))) := by
  refine f41_calls _ _ ?_
  refine (indexFunc_c hs hf).mono ?_
  rintro e w' ⟨rfl, hg⟩
  refine ⟨_, rfl, ?_, hg⟩
  rw [idxOf_any]
theorem clone_c {w : World} {v : Value} {xs : List Int} (hs : SlI w v xs) (hlen : xs.length ≤ 1000000) : Calls Tryd.prog 36 #[v] w fun e w' => ∃ v', e = .returned v' ∧ OwnI w' w.heap.size v' xs ∧ Grow w w' := by
  refine f36_calls _ ?_
  obtain ⟨a, c, rfl, h1, h2, h3, h4⟩ := hs.ex
  refine ⟨a.isNone, nilEq (e := 3) (by kernel_rfl), condP_i (fun ha => ?_) (fun ha => ?_)⟩
  · have : a = none := by simpa using ha
    have hc := h3 this
    have : xs = [] := by have : xs.length = 0 := by omega
                         simpa using this
    subst this
    exact ⟨_, rfl, Own.nil _ _ _ _, Grow.refl w⟩
  · intro w1 hw1
    have hl := Own.lit (B := w.heap.size) (n := 0) (sz := 1) hw1 (Nat.le_refl _) (by omega) (by simp)
    refine papp el_int (by omega) hl (hs.grow (alloc_grow hw1)) (by simp) (by simp [VC.encI, Value.oneCell']) (by rw [alloc_size hw1]; omega) (by omega) (by omega) ?_
    intro v' w' ho hf hn
    refine ⟨v', rfl, by simpa [OwnI] using ho, (alloc_grow hw1).fr hf fun i hi e => ?_⟩
    simp [Value.ownBlock] at e
    omega
/-! ## Comparing: the world is left as it was -/
def cmpI (x y : Int) : Int := if x < y then -1 else if y < x then 1 else 0
def cmpL : List Int → List Int → Int
  | [], [] => 0
  | [], _ :: _ => -1
  | _ :: _, [] => 1
  | x :: r, y :: s => if cmpI x y = 0 then cmpL r s else cmpI x y
/-! ## Least and greatest -/
/-! ## Atoms and facts in memory -/
/-- A relation and arguments: two cells. -/
def repA (w : World) (cs : List Value) (a : Int × List Int) : Prop := ∃ v, cs = [.int .i64 a.1, v] ∧ SlI w v a.2
theorem repA_mono : Mono repA := fun w w' cs x hg ⟨v, h1, h2⟩ => ⟨v, h1, h2.grow hg⟩
abbrev SlA (w : World) (v : Value) (l : List (Int × List Int)) : Prop := SlX 2 repA w v l
theorem SlA.gr {w w' : World} {v : Value} {l : List (Int × List Int)} (h : SlA w v l) (hf : Grow w w') : SlA w' v l := h.grow repA_mono hf
/-- A slice of ints, as an element. -/
def repI (w : World) (cs : List Value) (x : List Int) : Prop := ∃ v, cs = [v] ∧ SlI w v x
theorem repI_mono : Mono repI := fun w w' cs x hg ⟨v, h1, h2⟩ => ⟨v, h1, h2.grow hg⟩
abbrev SlL (w : World) (v : Value) (l : List (List Int)) : Prop := SlX 1 repI w v l
theorem SlL.gr {w w' : World} {v : Value} {l : List (List Int)} (h : SlL w v l) (hf : Grow w w') : SlL w' v l := h.grow repI_mono hf
/-- A local copy of two cells reads as was set. -/
theorem two {w : World} {a : Addr} {x y : Value} (h0 : w.cell? (a.add 0) = some x) (h1 : w.cell? (a.add 1) = some y) : ∀ (j : Nat) (u : Value), [x, y][j]? = some u → w.cell? (a.add j) = some u
  | 0, u, h => by simp at h; subst h; exact h0
  | 1, u, h => by simp at h; subst h; exact h1
  | j + 2, u, h => by simp at h
end Go.Proofs.YtleiddajojgmmaaDoor

/- Contracts: what a valid atom, query and fact is, by the program and by its reference. No condition. -/
namespace Go.Proofs.YtleiddajojgmmaaDoor
open Go Go.RowKit VC
set_option linter.unusedSimpArgs false
set_option linter.unusedVariables false

abbrev Atm := Int × List Int
/-! ## What is meant -/
def okT (x : Int) : Bool := decide (-9 ≤ x) && decide (x ≤ 7)
def okA (a : Atm) : Bool := decide (0 ≤ a.1) && decide (a.1 ≤ 5) && decide (1 ≤ a.2.length) && decide (a.2.length ≤ 3) && a.2.all okT
def varsL : List Int → Nat
  | [] => 0
  | x :: r => (if 0 ≤ x then 2 ^ x.toNat else 0) ||| varsL r
def varsB : List Atm → Nat
  | [] => 0
  | a :: r => varsL a.2 ||| varsB r
def okH (s : Nat) (x : Int) : Bool := decide (0 ≤ x) && decide (x ≤ 7) && s.testBit x.toNat
def okQ (h : List Int) (b : List Atm) : Bool := decide (1 ≤ b.length) && decide (b.length ≤ 5) && decide (h.length ≤ 4) && b.all okA && h.all (okH (varsB b))
theorem okT_iff {x : Int} : okT x = true ↔ -9 ≤ x ∧ x ≤ 7 := by simp [okT]
theorem okA_iff {a : Atm} : okA a = true ↔ 0 ≤ a.1 ∧ a.1 ≤ 5 ∧ 1 ≤ a.2.length ∧ a.2.length ≤ 3 ∧ ∀ x ∈ a.2, -9 ≤ x ∧ x ≤ 7 := by simp [okA, okT, and_assoc]
theorem varsL_app (l : List Int) (x : Int) : varsL (l ++ [x]) = varsL l ||| (if 0 ≤ x then 2 ^ x.toNat else 0) := by
  induction l with
  | nil => simp [varsL]
  | cons y r ih => rw [List.cons_append, varsL, ih, varsL, Nat.or_assoc]
theorem varsB_app (l : List Atm) (a : Atm) : varsB (l ++ [a]) = varsB l ||| varsL a.2 := by
  induction l with
  | nil => simp [varsB]
  | cons y r ih => rw [List.cons_append, varsB, ih, varsB, Nat.or_assoc]
theorem varsL_lt {l : List Int} (h : ∀ x ∈ l, -9 ≤ x ∧ x ≤ 7) : varsL l < 256 := by
  induction l with
  | nil => decide
  | cons x r ih =>
    have h1 := h x (List.mem_cons_self ..)
    have h2 := ih fun y hy => h y (List.mem_cons_of_mem _ hy)
    unfold varsL
    refine Nat.or_lt_two_pow (n := 8) ?_ h2
    split
    · exact Nat.pow_lt_pow_right (a := 2) (n := 8) (by omega) (by omega)
    · decide
theorem varsL_take {l : List Int} (h : ∀ x ∈ l, -9 ≤ x ∧ x ≤ 7) (k : Nat) : varsL (l.take k) < 256 := varsL_lt fun x hx => h x (List.mem_of_mem_take hx)
theorem varsB_lt {l : List Atm} (h : ∀ a ∈ l, okA a = true) : varsB l < 256 := by
  induction l with
  | nil => decide
  | cons a r ih => exact Nat.or_lt_two_pow (n := 8) (varsL_lt (okA_iff.1 (h a (List.mem_cons_self ..))).2.2.2.2) (ih fun y hy => h y (List.mem_cons_of_mem _ hy))
theorem varsB_take {l : List Atm} (h : ∀ x ∈ l, okA x = true) (k : Nat) : varsB (l.take k) < 256 := varsB_lt fun x hx => h x (List.mem_of_mem_take hx)
theorem bit_zero {s i : Nat} (h : i < 63) : (iAnd .i64 (iShr .i64 (s : Int) (i : Int)) 1 = 0) ↔ s.testBit i = false := by
  rw [iBit _ (by omega), ibit_nat]
  cases s.testBit i <;> simp
theorem app0 (a : Value) : (#[] ++ #[a] ++ #[] : Array Value) = #[a] := rfl
theorem app1 (a b : Value) : (#[] ++ #[a] ++ #[b] : Array Value) = #[a, b] := rfl
/-! ## Local copies -/
/-- An atom or fact is read into a variable of its own. -/
theorem SlX.loc {P : Program} {w : World} {v : Value} {l : List Atm} (h : SlA w v l) {i : Nat} {j : Int} (hj : j = (i : Int)) (hi : i < l.length) {zs : Array Value} (hz : zs.size = 2) {t : TypeId} {K : World → Prop}
    (hk : ∀ w2 u, Grow w w2 → w.heap.size < w2.heap.size → SlI w2 u l[i].2 → w2.cell? (Addr.add ⟨w.heap.size, 0, none⟩ 0) = some (.int .i64 l[i].1) → w2.cell? (Addr.add ⟨w.heap.size, 0, none⟩ 1) = some u → K w2) :
    ∃ (a : Addr) (m c : Nat), v = .slice (some a) m c ∧ ((0 : Int) ≤ j ∧ j < (m : Int)) ∧ ∃ cs : List Value, cs.length = 2 ∧ (∀ t u, cs[t]? = some u → w.cell? (Addr.add (a.add (Int.toNat j * 2)) t) = some u) ∧
      ∀ w1, w1 = w.alloc (.cells zs t) → ∃ cs' : Array Value, (Value.agg cs.toArray) = Value.agg cs' ∧ cs'.size = 2 ∧ ∃ w2 : World, (storeCells ⟨w.heap.size, 0, none⟩ cs'.toList).run P w1 = .ok () w2 ∧ K w2 := by
  refine SlX.rd h hj hi fun cs hl hr w1 hw1 => ?_
  obtain ⟨u, rfl, hu⟩ := hr
  have := setR (P := P) (cs := [.int .i64 l[i].1, u]) hw1 (by rw [hz]; rfl) (by
    intro y hy
    simp at hy
    rcases hy with rfl | rfl
    · rfl
    · exact hu.one.2) (K := K) fun w2 hg hs hc => hk w2 u hg hs (hu.grow hg) (hc 0 _ rfl) (hc 1 _ rfl)
  rw [hz] at this
  exact this
/-! ## The program -/
theorem atomVars_c {w : World} {r : Int} {v : Value} {xs : List Int} (hs : SlI w v xs) (hx : ∀ x ∈ xs, -9 ≤ x ∧ x ≤ 7) : Calls Tryd.prog 44 #[.agg #[.int .i64 r, v]] w (Ret w (.int .i64 (varsL xs : Nat))) := by
  refine f44_calls _ ?_
  refine ⟨_, rfl, fun w1 hw1 => ?_⟩
  have g1 := alloc_grow hw1
  have hle := hs.len_le
  have hb := varsL_take hx
  refine ⟨_, boxc hw1 1 _ rfl, (hs.grow g1).ln ?_⟩
  refine ⟨fun set t w' => ∃ k : Nat, t = k ∧ k ≤ xs.length ∧ set = ((varsL (xs.take k) : Nat) : Int) ∧ Grow w w', fun _ t _ => xs.length - t.toNat, ⟨0, rfl, by omega, rfl, g1⟩, ?_⟩
  rintro - - t w2 ⟨k, rfl, hk, rfl, g2⟩
  refine condD (fun hlt => ?_) (fun hge => ?_)
  · have hkl : k < xs.length := by omega
    have hxk := hx _ (List.getElem_mem hkl)
    have ht := List.take_succ_eq_append_getElem hkl
    have hb1 := hb k
    refine (hs.grow g2).rd rfl hkl (condD (fun h0 => ?_) fun h0 => ?_)
    · obtain ⟨n, hn⟩ : ∃ n : Nat, xs[k] = (n : Int) := ⟨xs[k].toNat, by omega⟩
      have h2 : 2 ^ n < 256 := Nat.pow_lt_pow_right (a := 2) (n := 8) (by omega) (by omega)
      refine ⟨by omega, by unfold inR; omega, ⟨k + 1, by omega, by omega, ?_, g2⟩, by dsimp only; omega⟩
      rw [ht, varsL_app, if_pos h0, hn, iShl_one (by omega), iOr_nat (by omega) (by omega), Int.toNat_natCast]
    · refine ⟨by unfold inR; omega, ⟨k + 1, by omega, by omega, ?_, g2⟩, by dsimp only; omega⟩
      rw [ht, varsL_app, if_neg h0, Nat.or_zero]
  · have hkl : k = xs.length := by omega
    subst hkl
    exact ⟨by rw [List.take_length], g2⟩
theorem argBad_c {x : Int} {w : World} : Calls Tryd.prog 64 #[.int .i64 x] w (Ret w (.bool (!okT x))) := by
  refine f64_calls _ ?_
  refine condD (fun h => ⟨?_, Grow.refl w⟩) fun h => ⟨?_, Grow.refl w⟩
  · have : okT x = false := by simp [okT]; omega
    rw [this]; rfl
  · congr 2
    rw [Bool.eq_iff_iff]; simp [okT]; omega
theorem atomValid_c {w : World} {r : Int} {v : Value} {xs : List Int} (hs : SlI w v xs) : Calls Tryd.prog 39 #[.agg #[.int .i64 r, v]] w (Ret w (.bool (okA (r, xs)))) := by
  refine f39_calls _ ?_
  refine ⟨_, rfl, fun w1 hw1 => ?_⟩
  have g1 := alloc_grow hw1
  have no : okA (r, xs) = false → Ret w (.bool (okA (r, xs))) (.returned (.bool false)) w1 := fun h => ⟨by rw [h], g1⟩
  refine ⟨_, boxc hw1 0 _ rfl, condD (fun h0 => ?_) fun h0 => no (by simp [okA]; omega)⟩
  refine ⟨_, boxc hw1 0 _ rfl, condD (fun h1 => ?_) fun h1 => no (by simp [okA]; omega)⟩
  refine ⟨_, boxc hw1 1 _ rfl, (hs.grow g1).ln (condD (fun h2 => ?_) fun h2 => no ?_)⟩
  · refine ⟨_, boxc hw1 1 _ rfl, (hs.grow g1).ln (condD (fun h3 => ?_) fun h3 => no ?_)⟩
    · refine ⟨_, boxc hw1 1 _ rfl, (containsFunc_c (p := fun x => !okT x) (hs.grow g1) ⟨_, _, _, rfl, by kernel_rfl, fun x _ w' _ => by rw [app0]; exact argBad_c⟩).mono ?_⟩
      rintro e w2 ⟨rfl, g2⟩
      refine ⟨_, rfl, ?_, g1.trans g2⟩
      congr 2
      rw [Bool.eq_iff_iff]
      simp [okA]
      omega
    · have : ¬ xs.length ≤ 3 := by omega
      simp [okA, this]
  · have : ¬ 1 ≤ xs.length := by omega
    simp [okA]; omega
/-- The function value f answers p a, at each a of l, in every world that has come of w. -/
def AsksA (w : World) (f : Value) (l : List Atm) (p : Atm → Bool) : Prop :=
  ∃ g fst cap, f = .func (.func g) fst cap ∧ callOK g = true ∧ ∀ a ∈ l, ∀ w' u, Grow w w' → SlI w' u a.2 → Calls Tryd.prog g (fst ++ #[.agg #[.int .i64 a.1, u]] ++ cap) w' (Ret w' (.bool (p a)))
theorem indexAtom_c {w : World} {v f : Value} {l : List Atm} {p : Atm → Bool} (hs : SlA w v l) (hf : AsksA w f l p) : Calls Tryd.prog 63 #[v, f] w (Ret w (.int .i64 (idxOf p l))) := by
  refine f63_calls _ _ ?_
  obtain ⟨g, fst, cap, rfl, hg, hcall⟩ := hf
  have hle := SlX.len_le hs
  refine SlX.ln hs ⟨fun t w' => ∃ k : Nat, t = k ∧ k ≤ l.length ∧ Grow w w' ∧ ∀ j (hj : j < l.length), j < k → p l[j] = false, fun t _ => l.length - t.toNat, ⟨0, rfl, by omega, Grow.refl w, fun j _ h => by omega⟩, ?_⟩
  rintro - t w1 ⟨k, rfl, hk, hw, hno⟩
  refine condD (fun hlt => ?_) (fun hge => ?_)
  · have hkl : k < l.length := by omega
    refine SlX.rd (hs.gr hw) rfl hkl ?_
    rintro cs - ⟨u, rfl, hu⟩
    refine ⟨g, fst, cap, rfl, hg, ?_⟩
    refine (hcall l[k] (List.getElem_mem hkl) w1 u hw hu).mono ?_
    rintro e w2 ⟨rfl, hg2⟩
    refine ⟨_, rfl, condP_i (fun hp => ?_) (fun hp => ?_)⟩
    · exact ⟨by rw [idxOf_some hkl hp hno], hw.trans hg2⟩
    · refine ⟨by unfold inR; omega, ⟨k + 1, by omega, by omega, hw.trans hg2, fun j hj hjk => ?_⟩, by dsimp only; omega⟩
      by_cases e : j = k
      · subst e; exact hp
      · exact hno j hj (by omega)
  · exact ⟨by rw [idxOf_none fun j hj => hno j hj (by omega)], hw⟩
theorem containsAtom_c {w : World} {v f : Value} {l : List Atm} {p : Atm → Bool} (hs : SlA w v l) (hf : AsksA w f l p) : Calls Tryd.prog 37 #[v, f] w (Ret w (.bool (l.any p))) := by
  refine f37_calls _ _ ?_
  refine (indexAtom_c hs hf).mono ?_
  rintro e w' ⟨rfl, hg⟩
  refine ⟨_, rfl, ?_, hg⟩
  rw [idxOf_any]
theorem queryVars_c {w : World} {hv v : Value} {l : List Atm} (hs : SlA w v l) (hl : ∀ a ∈ l, okA a = true) : Calls Tryd.prog 40 #[.agg #[hv, v]] w (Ret w (.int .i64 (varsB l : Nat))) := by
  refine f40_calls _ ?_
  refine ⟨_, rfl, fun w1 hw1 => ?_⟩
  have g1 := alloc_grow hw1
  have hle := SlX.len_le hs
  refine ⟨_, boxc hw1 1 _ rfl, SlX.ln (hs.gr g1) ?_⟩
  refine ⟨fun set t w' => ∃ k : Nat, t = k ∧ k ≤ l.length ∧ set = ((varsB (l.take k) : Nat) : Int) ∧ Grow w w', fun _ t _ => l.length - t.toNat, ⟨0, rfl, by omega, rfl, g1⟩, ?_⟩
  rintro - - t w2 ⟨k, rfl, hk, rfl, g2⟩
  refine condD (fun hlt => ?_) (fun hge => ?_)
  · have hkl : k < l.length := by omega
    have hx := (okA_iff.1 (hl _ (List.getElem_mem hkl))).2.2.2.2
    refine SlX.loc (hs.gr g2) rfl hkl rfl fun w3 u g3 _ hu c0 c1 => ?_
    refine ⟨[_, _], rfl, two c0 c1, (atomVars_c hu hx).mono ?_⟩
    rintro e w4 ⟨rfl, g4⟩
    have h1 := varsB_take hl k
    have h2 := varsL_lt hx
    refine ⟨_, rfl, by unfold inR; omega, ⟨k + 1, by omega, by omega, ?_, (g2.trans g3).trans g4⟩, by dsimp only; omega⟩
    rw [List.take_succ_eq_append_getElem hkl, varsB_app, iOr_nat (by omega) (by omega)]
  · have hkl : k = l.length := by omega
    subst hkl
    exact ⟨by rw [List.take_length], g2⟩
theorem badAtom_c {w : World} {r : Int} {v : Value} {xs : List Int} (hs : SlI w v xs) : Calls Tryd.prog 38 #[.agg #[.int .i64 r, v]] w (Ret w (.bool (!okA (r, xs)))) := by
  refine f38_calls _ ?_
  refine ⟨_, rfl, fun w1 hw1 => ?_⟩
  have g1 := alloc_grow hw1
  refine ⟨[_, _], rfl, two (boxc hw1 0 _ rfl) (boxc hw1 1 _ rfl), (atomValid_c (hs.grow g1)).mono ?_⟩
  rintro e w2 ⟨rfl, g2⟩
  exact ⟨_, rfl, rfl, g1.trans g2⟩
theorem headBad_c {x : Int} {s : Nat} {a : Addr} {w : World} (hc : w.cell? a = some (.int .i64 (s : Int))) : Calls Tryd.prog 42 #[.int .i64 x, .pointer (some a)] w (Ret w (.bool (!okH s x))) := by
  refine f42_calls _ _ ?_
  refine condD (fun h => ⟨?_, Grow.refl w⟩) fun h => condD (fun h2 => ⟨?_, Grow.refl w⟩) fun h2 => ⟨_, hc, by omega, ?_, Grow.refl w⟩
  · have : okH s x = false := by
      have : ¬ 0 ≤ x := by omega
      simp [okH, this]
    rw [this]; rfl
  · have : okH s x = false := by
      have : ¬ x ≤ 7 := by omega
      simp [okH, this]
    rw [this]; rfl
  · obtain ⟨n, rfl⟩ : ∃ n : Nat, x = (n : Int) := ⟨x.toNat, by omega⟩
    congr 2
    rw [Bool.eq_iff_iff, decide_eq_true_iff, bit_zero (by omega)]
    have h3 : (n : Int) ≤ 7 := by omega
    simp [okH]
    intro _; omega
/-- The program's test of a query. -/
theorem valid_c {w : World} {hv v : Value} {h : List Int} {l : List Atm} (hh : SlI w hv h) (hs : SlA w v l) : Calls Tryd.prog 25 #[.agg #[hv, v]] w (Ret w (.bool (okQ h l))) := by
  refine f25_calls _ ?_
  refine ⟨_, rfl, fun w1 hw1 => ?_⟩
  have g1 := alloc_grow hw1
  have no : ∀ {w'}, Grow w w' → okQ h l = false → Ret w (.bool (okQ h l)) (.returned (.bool false)) w' := fun g h => ⟨by rw [h], g⟩
  refine ⟨_, boxc hw1 1 _ rfl, SlX.ln (hs.gr g1) (condD (fun h0 => no g1 ?_) fun h0 => ?_)⟩
  · have : ¬ 1 ≤ l.length := by omega
    simp only [okQ, decide_eq_false this, Bool.false_and]
  refine ⟨_, boxc hw1 1 _ rfl, SlX.ln (hs.gr g1) (condD (fun h1 => no g1 ?_) fun h1 => ?_)⟩
  · have : ¬ l.length ≤ 5 := by omega
    simp only [okQ, decide_eq_false this, Bool.false_and, Bool.and_false]
  refine ⟨_, boxc hw1 0 _ rfl, (hh.grow g1).ln (condD (fun h2 => no g1 ?_) fun h2 => ?_)⟩
  · have : ¬ h.length ≤ 4 := by omega
    simp only [okQ, decide_eq_false this, Bool.false_and, Bool.and_false]
  refine ⟨_, boxc hw1 1 _ rfl, (containsAtom_c (p := fun a => !okA a) (hs.gr g1) ⟨_, _, _, rfl, by kernel_rfl, fun a _ w' u _ hu => by rw [app0]; exact badAtom_c hu⟩).mono ?_⟩
  rintro e w2 ⟨rfl, g2⟩
  have g02 := g1.trans g2
  refine ⟨_, rfl, condP_i (fun h3 => no g02 ?_) fun h3 => ?_⟩
  · have : l.all okA = false := by
      rw [List.all_eq_false]
      obtain ⟨a, ha, hb⟩ := List.any_eq_true.1 h3
      exact ⟨a, ha, by simpa using hb⟩
    simp only [okQ, this, Bool.false_and, Bool.and_false]
  · have hl : ∀ a ∈ l, okA a = true := fun a ha => by
      have := List.any_eq_false.1 h3 a ha
      simpa using this
    refine ⟨[_, _], rfl, two (g2.cell (boxc hw1 0 _ rfl)) (g2.cell (boxc hw1 1 _ rfl)), (queryVars_c (hs.gr g02) hl).mono ?_⟩
    rintro e w3 ⟨rfl, g3⟩
    have g03 := g02.trans g3
    refine ⟨_, rfl, fun w4 hw4 => ?_⟩
    have g4 := alloc_grow hw4
    have hb4 := Box.new hw4
    refine ⟨⟨_, hb4.cell⟩, hb4.free, fun w5 hw5 => ?_⟩
    have hb5 := hb4.set hw5
    have g35 : Grow w3 w5 := g4.fr (set_fr hw5) fun i hi e => by
      have : i = w3.heap.size := e
      omega
    have g05 := g03.trans g35
    refine ⟨_, (g2.trans (g3.trans g35)).cell (boxc hw1 0 _ rfl), (containsFunc_c (p := fun x => !okH (varsB l) x) (hh.grow g05) ⟨_, _, _, rfl, by kernel_rfl, fun x _ w' hg => by rw [app1]; exact headBad_c (x := x) (hg.cell hb5.cell)⟩).mono ?_⟩
    rintro e w6 ⟨rfl, g6⟩
    refine ⟨_, rfl, ?_, g05.trans g6⟩
    congr 2
    have e1 : l.all okA = true := List.all_eq_true.2 hl
    have e2 : decide (1 ≤ l.length) = true := decide_eq_true (by omega)
    have e3 : decide (l.length ≤ 5) = true := decide_eq_true (by omega)
    have e4 : decide (h.length ≤ 4) = true := decide_eq_true (by omega)
    simp only [okQ, e1, e2, e3, e4, Bool.true_and]
    rw [← Bool.not_not (h.all _), List.not_all_eq_any_not]
end Go.Proofs.YtleiddajojgmmaaDoor

/- Contracts: valid facts by the program; valid atoms, queries and facts by the reference. No condition. -/
namespace Go.Proofs.YtleiddajojgmmaaDoor
open Go Go.RowKit VC
set_option linter.unusedSimpArgs false
set_option linter.unusedVariables false

/-! ## The reference -/
theorem refTerm_c {x : Int} {w : World} : Calls Tryd.prog 46 #[.int .i64 x] w (Ret w (.bool (okT x))) := by
  refine f46_calls _ ?_
  refine condD (fun h => ⟨?_, Grow.refl w⟩) fun h => ⟨?_, Grow.refl w⟩
  · have : decide (-9 ≤ x) = true := decide_eq_true h
    simp only [okT, this, Bool.true_and]
  · have : decide (-9 ≤ x) = false := decide_eq_false h
    simp only [okT, this, Bool.false_and]
theorem refRight_c {w : World} {r : Int} {v : Value} {xs : List Int} (hs : SlI w v xs) : Calls Tryd.prog 27 #[.agg #[.int .i64 r, v]] w (Ret w (.bool (okA (r, xs)))) := by
  refine f27_calls _ ?_
  refine ⟨_, rfl, fun w1 hw1 => ?_⟩
  have g1 := alloc_grow hw1
  have hle := hs.len_le
  have no : ∀ {w'}, Grow w w' → ¬ okA (r, xs) = true → Ret w (.bool (okA (r, xs))) (.returned (.bool false)) w' := fun g h => ⟨by rw [Bool.not_eq_true] at h; rw [h], g⟩
  refine ⟨_, boxc hw1 1 _ rfl, (hs.grow g1).ln ?_⟩
  refine ⟨fun t w' => ∃ k : Nat, t = k ∧ k ≤ xs.length ∧ (∀ x ∈ xs.take k, -9 ≤ x ∧ x ≤ 7) ∧ Grow w1 w', fun t _ => xs.length - t.toNat, ⟨0, rfl, by omega, by simp, Grow.refl w1⟩, ?_⟩
  rintro - t w2 ⟨k, rfl, hk, hall, g2⟩
  have g02 := g1.trans g2
  refine condD (fun hlt => ?_) (fun hge => ?_)
  · have hkl : k < xs.length := by omega
    refine (hs.grow g02).rd rfl hkl (refTerm_c.mono ?_)
    rintro e w3 ⟨rfl, g3⟩
    refine ⟨_, rfl, condP_i (fun h => no (g02.trans g3) ?_) fun h => ?_⟩
    · rw [okA_iff]
      rintro ⟨-, -, -, -, h'⟩
      have := okT_iff.2 (h' _ (List.getElem_mem hkl))
      rw [this] at h; cases h
    · refine ⟨by unfold inR; omega, ⟨k + 1, by omega, by omega, fun x hx => ?_, g2.trans g3⟩, by dsimp only; omega⟩
      rw [List.take_succ_eq_append_getElem hkl] at hx
      rcases List.mem_append.1 hx with hx | hx
      · exact hall x hx
      · have : x = xs[k] := by simpa using hx
        subst this
        exact okT_iff.1 (by simpa using h)
  · have hkl : k = xs.length := by omega
    subst hkl
    rw [List.take_length] at hall
    refine ⟨_, g2.cell (boxc hw1 0 _ rfl), condD (fun h0 => ?_) fun h0 => no g02 (by rw [okA_iff]; dsimp only; omega)⟩
    refine ⟨_, g2.cell (boxc hw1 0 _ rfl), condD (fun h1 => ?_) fun h1 => no g02 (by rw [okA_iff]; dsimp only; omega)⟩
    refine ⟨_, g2.cell (boxc hw1 1 _ rfl), (hs.grow g02).ln (condD (fun h2 => ?_) fun h2 => no g02 (by rw [okA_iff]; dsimp only; omega))⟩
    refine ⟨_, g2.cell (boxc hw1 1 _ rfl), (hs.grow g02).ln ⟨?_, g02⟩⟩
    congr 2
    rw [Bool.eq_iff_iff, decide_eq_true_iff, okA_iff]
    constructor
    · intro h
      exact ⟨by dsimp only; omega, by dsimp only; omega, by dsimp only; omega, by dsimp only; omega, hall⟩
    · rintro ⟨-, -, -, h, -⟩
      dsimp only at h; omega
theorem refVars_c {w : World} {r : Int} {v : Value} {xs : List Int} (hs : SlI w v xs) (hx : ∀ x ∈ xs, -9 ≤ x ∧ x ≤ 7) : Calls Tryd.prog 13 #[.agg #[.int .i64 r, v]] w (Ret w (.int .i64 (varsL xs : Nat))) := by
  refine f13_calls _ ?_
  refine ⟨_, rfl, fun w1 hw1 => ?_⟩
  have g1 := alloc_grow hw1
  have hle := hs.len_le
  have hb := varsL_take hx
  refine ⟨_, boxc hw1 1 _ rfl, (hs.grow g1).ln ?_⟩
  refine ⟨fun set t w' => ∃ k : Nat, t = k ∧ k ≤ xs.length ∧ set = ((varsL (xs.take k) : Nat) : Int) ∧ Grow w w', fun _ t _ => xs.length - t.toNat, ⟨0, rfl, by omega, rfl, g1⟩, ?_⟩
  rintro - - t w2 ⟨k, rfl, hk, rfl, g2⟩
  refine condD (fun hlt => ?_) (fun hge => ?_)
  · have hkl : k < xs.length := by omega
    have hxk := hx _ (List.getElem_mem hkl)
    have ht := List.take_succ_eq_append_getElem hkl
    have hb1 := hb k
    refine (hs.grow g2).rd rfl hkl (condD (fun h0 => ?_) fun h0 => ?_)
    · obtain ⟨n, hn⟩ : ∃ n : Nat, xs[k] = (n : Int) := ⟨xs[k].toNat, by omega⟩
      have h2 : 2 ^ n < 256 := Nat.pow_lt_pow_right (a := 2) (n := 8) (by omega) (by omega)
      refine ⟨by omega, by unfold inR; omega, ⟨k + 1, by omega, by omega, ?_, g2⟩, by dsimp only; omega⟩
      rw [ht, varsL_app, if_pos h0, hn, iShl_one (by omega), iOr_nat (by omega) (by omega), Int.toNat_natCast]
    · refine ⟨by unfold inR; omega, ⟨k + 1, by omega, by omega, ?_, g2⟩, by dsimp only; omega⟩
      rw [ht, varsL_app, if_neg h0, Nat.or_zero]
  · have hkl : k = xs.length := by omega
    subst hkl
    exact ⟨by rw [List.take_length], g2⟩
theorem refAll_c {w : World} {hv v : Value} {l : List Atm} (hs : SlA w v l) (hl : ∀ a ∈ l, okA a = true) : Calls Tryd.prog 12 #[.agg #[hv, v]] w (Ret w (.int .i64 (varsB l : Nat))) := by
  refine f12_calls _ ?_
  refine ⟨_, rfl, fun w1 hw1 => ?_⟩
  have g1 := alloc_grow hw1
  have hle := SlX.len_le hs
  refine ⟨_, boxc hw1 1 _ rfl, SlX.ln (hs.gr g1) ?_⟩
  refine ⟨fun set t w' => ∃ k : Nat, t = k ∧ k ≤ l.length ∧ set = ((varsB (l.take k) : Nat) : Int) ∧ Grow w w', fun _ t _ => l.length - t.toNat, ⟨0, rfl, by omega, rfl, g1⟩, ?_⟩
  rintro - - t w2 ⟨k, rfl, hk, rfl, g2⟩
  refine condD (fun hlt => ?_) (fun hge => ?_)
  · have hkl : k < l.length := by omega
    have hx := (okA_iff.1 (hl _ (List.getElem_mem hkl))).2.2.2.2
    refine SlX.loc (hs.gr g2) rfl hkl rfl fun w3 u g3 _ hu c0 c1 => ?_
    refine ⟨[_, _], rfl, two c0 c1, (refVars_c hu hx).mono ?_⟩
    rintro e w4 ⟨rfl, g4⟩
    have h1 := varsB_take hl k
    have h2 := varsL_lt hx
    refine ⟨_, rfl, by unfold inR; omega, ⟨k + 1, by omega, by omega, ?_, (g2.trans g3).trans g4⟩, by dsimp only; omega⟩
    rw [List.take_succ_eq_append_getElem hkl, varsB_app, iOr_nat (by omega) (by omega)]
  · have hkl : k = l.length := by omega
    subst hkl
    exact ⟨by rw [List.take_length], g2⟩
/-- The reference's test of a query. -/
theorem refValid_c {w : World} {hv v : Value} {h : List Int} {l : List Atm} (hh : SlI w hv h) (hs : SlA w v l) : Calls Tryd.prog 11 #[.agg #[hv, v]] w (Ret w (.bool (okQ h l))) := by
  refine f11_calls _ ?_
  refine ⟨_, rfl, fun w1 hw1 => ?_⟩
  have g1 := alloc_grow hw1
  have no : ∀ {w'}, Grow w w' → okQ h l = false → Ret w (.bool (okQ h l)) (.returned (.bool false)) w' := fun g h => ⟨by rw [h], g⟩
  refine ⟨_, boxc hw1 1 _ rfl, SlX.ln (hs.gr g1) (condD (fun h0 => no g1 ?_) fun h0 => ?_)⟩
  · have : ¬ 1 ≤ l.length := by omega
    simp only [okQ, decide_eq_false this, Bool.false_and]
  refine ⟨_, boxc hw1 1 _ rfl, SlX.ln (hs.gr g1) (condD (fun h1 => no g1 ?_) fun h1 => ?_)⟩
  · have : ¬ l.length ≤ 5 := by omega
    simp only [okQ, decide_eq_false this, Bool.false_and, Bool.and_false]
  refine ⟨_, boxc hw1 0 _ rfl, (hh.grow g1).ln (condD (fun h2 => no g1 ?_) fun h2 => ?_)⟩
  · have : ¬ h.length ≤ 4 := by omega
    simp only [okQ, decide_eq_false this, Bool.false_and, Bool.and_false]
  refine ⟨_, boxc hw1 1 _ rfl, SlX.ln (hs.gr g1) ?_⟩
  refine ⟨fun t w' => ∃ k : Nat, t = k ∧ k ≤ l.length ∧ (∀ a ∈ l.take k, okA a = true) ∧ Grow w1 w', fun t _ => l.length - t.toNat, ⟨0, rfl, by omega, by simp, Grow.refl w1⟩, ?_⟩
  rintro - t w2 ⟨k, rfl, hk, hall, g2⟩
  have g02 := g1.trans g2
  refine condD (fun hlt => ?_) (fun hge => ?_)
  · have hkl : k < l.length := by omega
    refine SlX.loc (hs.gr g02) rfl hkl rfl fun w3 u g3 _ hu c0 c1 => ?_
    refine ⟨[_, _], rfl, two c0 c1, (refRight_c hu).mono ?_⟩
    rintro e w4 ⟨rfl, g4⟩
    have g24 := g3.trans g4
    refine ⟨_, rfl, condP_i (fun h3 => no (g02.trans g24) ?_) fun h3 => ?_⟩
    · have : l.all okA = false := by
        rw [List.all_eq_false]
        exact ⟨l[k], List.getElem_mem hkl, by simpa using h3⟩
      simp only [okQ, this, Bool.false_and, Bool.and_false]
    · refine ⟨by unfold inR; omega, ⟨k + 1, by omega, by omega, fun x hx => ?_, g2.trans g24⟩, by dsimp only; omega⟩
      rw [List.take_succ_eq_append_getElem hkl] at hx
      rcases List.mem_append.1 hx with hx | hx
      · exact hall x hx
      · have : x = l[k] := by simpa using hx
        subst this
        simpa using h3
  · have hkl : k = l.length := by omega
    subst hkl
    rw [List.take_length] at hall
    have hlh := hh.len_le
    have e1 : l.all okA = true := List.all_eq_true.2 hall
    have e2 : decide (1 ≤ l.length) = true := decide_eq_true (by omega)
    have e3 : decide (l.length ≤ 5) = true := decide_eq_true (by omega)
    have e4 : decide (h.length ≤ 4) = true := decide_eq_true (by omega)
    have hq : okQ h l = h.all (okH (varsB l)) := by simp only [okQ, e1, e2, e3, e4, Bool.true_and]
    rw [hq] at no ⊢
    refine ⟨_, g2.cell (boxc hw1 0 _ rfl), (hh.grow g02).ln ?_⟩
    refine ⟨fun t w' => ∃ k : Nat, t = k ∧ k ≤ h.length ∧ (∀ x ∈ h.take k, okH (varsB l) x = true) ∧ Grow w1 w', fun t _ => h.length - t.toNat, ⟨0, rfl, by omega, by simp, g2⟩, ?_⟩
    rintro - t w3 ⟨k, rfl, hk, hall2, g3⟩
    have g03 := g1.trans g3
    refine condD (fun hlt => ?_) (fun hge => ?_)
    · have hkl : k < h.length := by omega
      have bad : okH (varsB l) h[k] = false → h.all (okH (varsB l)) = false := fun hb => by
        rw [List.all_eq_false]
        exact ⟨h[k], List.getElem_mem hkl, by simpa using hb⟩
      refine (hh.grow g03).rd rfl hkl (condD (fun h4 => no g03 (bad ?_)) fun h4 => condD (fun h5 => no g03 (bad ?_)) fun h5 => ?_)
      · have : ¬ 0 ≤ h[k] := by omega
        simp [okH, this]
      · have : ¬ h[k] ≤ 7 := by omega
        simp [okH, this]
      · refine ⟨[_, _], rfl, two (g3.cell (boxc hw1 0 _ rfl)) (g3.cell (boxc hw1 1 _ rfl)), (refAll_c (hs.gr g03) hall).mono ?_⟩
        rintro e w4 ⟨rfl, g4⟩
        obtain ⟨n, hn⟩ : ∃ n : Nat, h[k] = (n : Int) := ⟨h[k].toNat, by omega⟩
        have key : okH (varsB l) h[k] = (varsB l).testBit n := by
          rw [hn] at h4 h5 ⊢
          unfold okH
          rw [decide_eq_true (show (0 : Int) ≤ n by omega), decide_eq_true (show (n : Int) ≤ 7 by omega), Int.toNat_natCast]; rfl
        rw [hn] at h4 h5 ⊢
        refine ⟨_, rfl, by omega, condD (fun h8 => no (g03.trans g4) (bad ?_)) fun h8 => ?_⟩
        · rw [key]; exact (bit_zero (by omega)).1 h8
        · rw [bit_zero (by omega)] at h8
          refine ⟨by unfold inR; omega, ⟨k + 1, by omega, by omega, fun x hx => ?_, g3.trans g4⟩, by dsimp only; omega⟩
          rw [List.take_succ_eq_append_getElem hkl] at hx
          rcases List.mem_append.1 hx with hx | hx
          · exact hall2 x hx
          · have : x = h[k] := by simpa using hx
            subst this
            rw [key]; simpa using h8
    · have hkl : k = h.length := by omega
      subst hkl
      rw [List.take_length] at hall2
      exact ⟨by rw [List.all_eq_true.2 hall2], g03⟩
end Go.Proofs.YtleiddajojgmmaaDoor
