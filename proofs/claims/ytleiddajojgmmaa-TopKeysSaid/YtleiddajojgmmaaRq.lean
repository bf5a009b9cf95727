/- Contracts: valid books, keys, blocks, by the program. No condition. -/
import Derived.Test.YtleiddajojgmmaaVz
import Derived.Test.YtleiddajojgmmaaSh
import Derived.Sort.OwnSortedInts
import Derived.Test.YtleiddajojgmmaaMs
import Derived.Test.YtleiddajojgmmaaGsu
namespace Go.Proofs.Ytleiddajojgmmaa
open Go Go.RowKit VC
set_option linter.unusedSimpArgs false
set_option linter.unusedVariables false

theorem el_mapI : Try.prog.underlying 99 = some (.map 3 3) ∧ Try.prog.underlying 3 = some (.int .i64) ∧ Try.prog.info? 3 = some Try.t3 ∧ Try.t3.zero = some (.int .i64 0) := ⟨by kernel_rfl, by kernel_rfl, by kernel_rfl, by kernel_rfl⟩
theorem pinR {α : Type} {k : Nat} {rep : World → List Value → α → Prop} {w0 w : World} {v : Value} {xs : List α} (h : SlX k rep w0 v xs) (g : Grow w0 w) : SlX k (fun _ cs x => rep w0 cs x) w v xs := by
  obtain ⟨a, c, e, h1, h2, h3, h4⟩ := h.ex
  exact ⟨a, c, e, h1, h2, h3, fun i hi => by
    obtain ⟨b, cs, e1, e2, e3, e4⟩ := h4 i hi
    exact ⟨b, cs, e1, e2, fun t u ht => g.cell (e3 t u ht), e4⟩⟩
/-- A fact or an atom, copied into a variable; its Args as they stood before. -/
theorem locR {P : Program} {w0 w : World} {v : Value} {l : List Atm} (h : SlA w0 v l) (g : Grow w0 w) {i : Nat} {j : Int} (hj : j = (i : Int)) (hi : i < l.length) {zs : Array Value} (hz : zs.size = 2) {t : TypeId} {K : World → Prop}
    (hk : ∀ w2 u, Grow w w2 → w.heap.size < w2.heap.size → SlI w0 u l[i].2 → RecV w2 w.heap.size [.int .i64 l[i].1, u] → K w2) :
    ∃ (a : Addr) (m c : Nat), v = .slice (some a) m c ∧ ((0 : Int) ≤ j ∧ j < (m : Int)) ∧ ∃ cs : List Value, cs.length = 2 ∧ (∀ t u, cs[t]? = some u → w.cell? (Addr.add (a.add (Int.toNat j * 2)) t) = some u) ∧
      ∀ w1, w1 = w.alloc (.cells zs t) → ∃ cs' : Array Value, (Value.agg cs.toArray) = Value.agg cs' ∧ cs'.size = 2 ∧ ∃ w2 : World, (storeCells ⟨w.heap.size, 0, none⟩ cs'.toList).run P w1 = .ok () w2 ∧ K w2 := by
  refine SlX.rd (pinR h g) hj hi fun cs hl hr w1 hw1 => ?_
  obtain ⟨u, rfl, hu⟩ := hr
  have := RecV.init (P := P) (cs := [.int .i64 l[i].1, u]) hw1 (by rw [hz]; rfl) (by
    intro y hy
    simp at hy
    rcases hy with rfl | rfl
    · rfl
    · exact hu.one.2) (K := K) fun w2 hg hs hc => hk w2 u hg hs hu hc
  rw [hz] at this
  exact this
/-! ## Valid -/
def okAr (pre : List Atm) (f : Atm) : Bool := okF f && pre.all fun g => !decide (g.1 = f.1) || (decide (g.2.length = f.2.length) && !decide (g.2 = f.2))
def okL (L : List Atm) : Bool := L.all okF && okP L
theorem okR_okL (s : List Int) (L : List Atm) : okR s L = (okS s && decide (L.length ≤ 12) && okL L) := by
  unfold okR okL
  rw [Bool.and_assoc (okS s && decide (L.length ≤ 12))]
theorem okL_app (L : List Atm) (f : Atm) : okL (L ++ [f]) = (okL L && okAr L f) := by
  rw [Bool.eq_iff_iff]
  simp only [okL, okAr, Bool.and_eq_true, okP_iff, List.pairwise_append, List.all_append, List.all_cons, List.all_nil, Bool.and_true, List.mem_singleton, forall_eq, List.all_eq_true]
  have e : ∀ g : Atm, (!decide (g.1 = f.1) || (decide (g.2.length = f.2.length) && !decide (g.2 = f.2))) = true ↔ (g.1 = f.1 → g.2.length = f.2.length ∧ g.2 ≠ f.2) := fun g => by
    by_cases h : g.1 = f.1
    · simp [h]
    · simp [h]
  constructor
  · rintro ⟨⟨h1, h2⟩, h3, -, h4⟩
    exact ⟨⟨h1, h3⟩, h2, fun g hg => (e g).2 (h4 g hg)⟩
  · rintro ⟨⟨h1, h3⟩, h2, h4⟩
    exact ⟨⟨h1, h2⟩, h3, List.pairwise_singleton _ _, fun g hg => (e g).1 (h4 g hg)⟩
theorem okL_take {L : List Atm} (h : okL L = true) (k : Nat) : okL (L.take k) = true := by
  simp only [okL, Bool.and_eq_true, okP_iff, List.all_eq_true] at h ⊢
  exact ⟨fun a ha => h.1 a (List.mem_of_mem_take ha), h.2.sublist (List.take_sublist k L)⟩
theorem okL_bad {L : List Atm} {k : Nat} (hk : k < L.length) (h : okAr (L.take k) L[k] = false) : okL L = false := by
  rw [← Bool.not_eq_true]
  intro h2
  have := okL_take h2 (k + 1)
  rw [List.take_succ_eq_append_getElem hk, okL_app, h, Bool.and_false] at this
  cases this
theorem mkF {f : Atm} (h0 : 0 ≤ f.1) (h5 : f.1 ≤ 5) (h1 : 1 ≤ f.2.length) (h3 : f.2.length ≤ 3) (ha : ∀ x ∈ f.2, 1 ≤ x) (hb : ∀ x ∈ f.2, x ≤ 99) : okF f = true := okF_iff.2 ⟨h0, h5, h1, h3, fun x hx => ⟨ha x hx, hb x hx⟩⟩
theorem notF {f : Atm} (h : ¬ (0 ≤ f.1 ∧ f.1 ≤ 5 ∧ 1 ≤ f.2.length ∧ f.2.length ≤ 3 ∧ ∀ x ∈ f.2, 1 ≤ x ∧ x ≤ 99)) : okF f = false := by
  rw [← Bool.not_eq_true, okF_iff]
  exact h
theorem notAr {pre : List Atm} {f : Atm} (h : okF f = false) : okAr pre f = false := by rw [okAr, h, Bool.false_and]
theorem notArG {pre : List Atm} {f g : Atm} (hg : g ∈ pre) (e : g.1 = f.1) (h : g.2.length ≠ f.2.length ∨ g.2 = f.2) : okAr pre f = false := by
  rw [okAr, ← Bool.not_eq_true, Bool.and_eq_true, List.all_eq_true]
  intro h2
  have := h2.2 g hg
  rcases h with h | h <;> simp [e, h] at this
/-- The lengths that the map holds. -/
structure MapOf (kv : List (Int × Value)) (pre : List Atm) : Prop where
  has : ∀ f ∈ pre, getM kv f.1 = some (.int .i64 (f.2.length : Int))
  is : ∀ r, getM kv r ≠ none → ∃ f ∈ pre, f.1 = r
theorem MapOf.nil : MapOf [] [] := ⟨fun f hf => (by cases hf), fun r h => absurd rfl h⟩
theorem MapOf.upd {kv : List (Int × Value)} {pre : List Atm} (h : MapOf kv pre) {f : Atm} (hl : ∀ g ∈ pre, g.1 = f.1 → g.2.length = f.2.length) : MapOf (updM kv f.1 (.int .i64 (f.2.length : Int))) (pre ++ [f]) := by
  refine ⟨fun g hg => ?_, fun r hr => ?_⟩
  · rw [getM_upd]
    split
    · rename_i e
      rcases List.mem_append.1 hg with hg | hg
      · rw [hl g hg e]
      · rw [List.mem_singleton.1 hg]
    · rename_i e
      rcases List.mem_append.1 hg with hg | hg
      · exact h.has g hg
      · rw [List.mem_singleton.1 hg] at e
        exact absurd rfl e
  · rw [getM_upd] at hr
    split at hr
    · rename_i e
      exact ⟨f, List.mem_append_right _ (List.mem_singleton.2 rfl), e.symm⟩
    · obtain ⟨g, hg, e⟩ := h.is r hr
      exact ⟨g, List.mem_append_left _ hg, e⟩
theorem read1_c {w : World} {r r' : Int} {u u' : Value} {xs ys : List Int} {p : Addr} (hu : SlI w u xs) (c0 : w.cell? (p.add 0) = some (.int .i64 r')) (c1 : w.cell? (p.add 1) = some u') (hu' : SlI w u' ys) :
    Calls Try.prog 52 #[.agg #[.int .i64 r, u], .pointer (some p)] w (Ret w (.bool (decide (r = r') && decide (xs = ys)))) := by
  refine f52_calls _ _ ?_
  refine ⟨_, rfl, fun w1 hw1 => ?_⟩
  have g1 := alloc_grow hw1
  refine ⟨_, boxc hw1 0 _ rfl, _, g1.cell c0, condD (fun h => ⟨_, boxc hw1 1 _ rfl, _, g1.cell c1, (equal_c (hu.grow g1) (hu'.grow g1)).mono ?_⟩) fun h => ⟨?_, g1⟩⟩
  · rintro e w7 ⟨rfl, g7⟩
    exact ⟨_, rfl, by rw [decide_eq_true h, Bool.true_and], g1.trans g7⟩
  · rw [decide_eq_false h, Bool.false_and]
theorem read_c {w : World} {sv fv : Value} {s : List Int} {L : List Atm} (hs : SlI w sv s) (hl : SlA w fv L) : Calls Try.prog 26 #[sv, fv] w fun e w' => ∃ x y, e = .returned (.tuple #[.agg #[x, y], .bool (okR s L)]) ∧ oneV x ∧ oneV y ∧ (okR s L = true → x = sv ∧ y = fv) ∧ Grow w w' := by
  refine f26_calls _ _ ?_
  obtain ⟨um, uk, ui, uz⟩ := el_mapI
  intro w1 hw1
  have g1 := alloc_grow hw1
  have s1 := alloc_size hw1
  have hR := RecV.new hw1
  have nl : oneV (.slice none 0 0) := ⟨rfl, rfl⟩
  have no : ∀ {w'}, Grow w1 w' → okR s L = false → ∃ cs : Array Value, (Value.agg #[(.slice none 0 0), (.slice none 0 0)]) = .agg cs ∧ cs.size = 2 ∧ ∃ w2 : World, (storeCells ⟨w.heap.size, 0, none⟩ cs.toList).run Try.prog w' = .ok () w2 ∧ ∃ ds : List Value, ds.length = 2 ∧ (∀ (j : Nat) (v : Value), ds[j]? = some v → w2.cell? (Addr.add ⟨w.heap.size, 0, none⟩ j) = some v) ∧
      ∃ x y, Ending.returned (.tuple #[.agg ds.toArray, .bool false]) = .returned (.tuple #[.agg #[x, y], .bool (okR s L)]) ∧ oneV x ∧ oneV y ∧ (okR s L = true → x = sv ∧ y = fv) ∧ Grow w w2 := fun {w'} g hbad => by
    refine RecV.store (cs := [.slice none 0 0, .slice none 0 0]) (hR.grow g) rfl (by simp [Value.oneCell']) fun w2 hf hr => ⟨[_, _], rfl, hr.all, _, _, (by rw [hbad]), nl, nl, fun h => (by rw [hbad] at h; cases h), (g1.trans g).fr hf fun i hi e => by omega⟩
  refine hs.ln (condP_i (fun h6 => no (Grow.refl _) ?_) fun h6 => ?_)
  · have h6 : ¬ s.length = 6 := by simp at h6; omega
    rw [okR, okS, decide_eq_false h6]; simp
  have h6 : s.length = 6 := by simp at h6; omega
  refine (minI_c (hs.grow g1) (by omega)).mono ?_
  rintro e w8 ⟨mn, rfl, hmn, hmin, g8⟩
  refine ⟨_, rfl, condD (fun h => no g8 ?_) fun h => ?_⟩
  · have : s.all (fun x => decide (0 ≤ x) && decide (x ≤ 3)) = false := by
      rw [← Bool.not_eq_true, List.all_eq_true]
      intro h2
      have := h2 mn hmn
      simp at this
      omega
    rw [okR, okS, this]; simp
  refine (maxI_c (hs.grow (g1.trans g8)) (by omega)).mono ?_
  rintro e w14 ⟨mx, rfl, hmx, hmax, g14⟩
  have g114 := g8.trans g14
  refine ⟨_, rfl, condD (fun h => no g114 ?_) fun h3 => ?_⟩
  · have : s.all (fun x => decide (0 ≤ x) && decide (x ≤ 3)) = false := by
      rw [← Bool.not_eq_true, List.all_eq_true]
      intro h2
      have := h2 mx hmx
      simp at this
      omega
    rw [okR, okS, this]; simp
  have hS : okS s = true := by
    rw [okS, decide_eq_true h6, Bool.true_and, List.all_eq_true]
    intro x hx
    have := hmin x hx
    have := hmax x hx
    simp
    omega
  refine SlX.ln (hl.gr (g1.trans g114)) (condD (fun h => no g114 ?_) fun h12 => ?_)
  · rw [okR, decide_eq_false (by omega : ¬ L.length ≤ 12)]; simp
  have eR : okR s L = okL L := by rw [okR_okL, hS, decide_eq_true (by omega : L.length ≤ 12)]; rfl
  rw [eR] at no ⊢
  refine MapI.make _ w14 fun w26 hw26 hm26 g26 s26 => SlX.ln (hl.gr ((g1.trans g114).trans g26)) ?_
  have g126 := g114.trans g26
  refine ⟨fun t w' => ∃ (k : Nat) (kv : List (Int × Value)), t = k ∧ k ≤ L.length ∧ okL (L.take k) = true ∧ MapI w' w14.heap.size kv ∧ MapOf kv (L.take k) ∧ Fr (fun i => i = w14.heap.size) w26 w', fun t _ => L.length - t.toNat, ⟨0, [], rfl, by omega, rfl, hm26, MapOf.nil, Fr.refl _ _⟩, ?_⟩
  rintro - t w35 ⟨k, kv, rfl, hk, hok, hm, hkv, hf35⟩
  have gW : ∀ {w'}, Fr (fun i => i = w14.heap.size) w26 w' → Grow w1 w' := fun hf => g126.fr hf fun i hi e => by have := g114.size; omega
  have g35 := gW hf35
  refine condD (fun hlt => ?_) fun hge => ?_
  · have hkl : k < L.length := by omega
    refine locR hl (g1.trans g35) rfl hkl rfl fun w41 u g41 s41 hu hc => ?_
    have g141 := g35.trans g41
    have bad : ∀ {w'}, Grow w1 w' → okAr (L.take k) L[k] = false → _ := fun {w'} g h => no g (okL_bad hkl h)
    refine ⟨_, hc.cell (j := 0) rfl, condD (fun h => bad g141 (notAr (notF fun h2 => by omega))) fun q0 => ⟨_, hc.cell (j := 0) rfl, condD (fun h => bad g141 (notAr (notF fun h2 => by omega))) fun q5 => ?_⟩⟩
    refine ⟨_, hc.cell (j := 1) rfl, hu.ln (condD (fun h => bad g141 (notAr (notF fun h2 => by omega))) fun q1 => ⟨_, hc.cell (j := 1) rfl, hu.ln (condD (fun h => bad g141 (notAr (notF fun h2 => by omega))) fun q3 => ?_)⟩)⟩
    refine ⟨_, hc.cell (j := 1) rfl, (minI_c (hu.grow (g1.trans g141)) (by omega)).mono ?_⟩
    rintro e w66 ⟨mn2, rfl, hmn2, hmin2, g66⟩
    refine ⟨_, rfl, condD (fun h => bad (g141.trans g66) (notAr (notF fun h2 => by have := h2.2.2.2.2 _ hmn2; omega))) fun q4 => ?_⟩
    refine ⟨_, (hc.grow g66).cell (j := 1) rfl, (maxI_c (hu.grow ((g1.trans g141).trans g66)) (by omega)).mono ?_⟩
    rintro e w73 ⟨mx2, rfl, hmx2, hmax2, g73⟩
    have g4173 := g66.trans g73
    refine ⟨_, rfl, condD (fun h => bad (g141.trans g4173) (notAr (notF fun h2 => by have := h2.2.2.2.2 _ hmx2; omega))) fun q6 => ?_⟩
    have hF : okF L[k] = true := mkF (by omega) (by omega) (by omega) (by omega) (fun x hx => by have := hmin2 x hx; omega) (fun x hx => by have := hmax2 x hx; omega)
    have hc73 := hc.grow g4173
    have hm73 := (hm.grow g41).grow g4173
    have f73 : Fr (fun i => i = w14.heap.size) w26 w73 := hf35.trans (Fr.of_grow (g41.trans g4173))
    have s2635 := hf35.size
    have s4173 := g4173.size
    have s3541 := g41.size
    refine ⟨_, hc73.cell (j := 0) rfl, ?_⟩
    rw [hm73.get (P := Try.prog) um uk ui uz]
    -- what follows once the lengths agree
    have next : (∀ g ∈ L.take k, g.1 = L[k].1 → g.2.length = L[k].2.length) → ∃ t_v90 : Int, w73.cell? (Addr.add ⟨w35.heap.size, 0, none⟩ 0) = some (Value.int .i64 t_v90) ∧ ∃ t_v91 : Value, w73.cell? (Addr.add ⟨w35.heap.size, 0, none⟩ 1) = some t_v91 ∧ ∃ (a_v92 : Option Addr) (n_v93 c_v94 : Nat), t_v91 = Value.slice a_v92 n_v93 c_v94 ∧ ∃ w_v95 : World, (Instr.mapUpdate 99 (.map (some w14.heap.size)) (Value.int .i64 t_v90) (Value.int .i64 (n_v93 : Int))).run Try.prog w73 = .ok () w_v95 ∧ ∃ (a_v96 : Option Addr) (n_v97 c_v98 : Nat), fv = Value.slice a_v96 n_v97 c_v98 ∧ ∃ l_v99 h_v100 m_v101 : Nat, sbR none (some (Value.int .i64 (k : Int))) none n_v97 c_v98 l_v99 h_v100 m_v101 ∧ Calls Try.prog 51 #[(Value.slice (if m_v101 = l_v99 then a_v96 else a_v96.map (·.add (l_v99 * 2))) (h_v100 - l_v99) (m_v101 - l_v99)), (Value.func (Fn.func 52) #[] #[(Value.pointer (some ⟨w35.heap.size, 0, none⟩))])] w_v95 fun e_v103 w_v102 => ∃ t_v104 : Bool, e_v103 = .returned (Value.bool t_v104) ∧ condP t_v104 (∃ cs : Array Value, (Value.agg #[(.slice none 0 0), (.slice none 0 0)]) = .agg cs ∧ cs.size = 2 ∧ ∃ w2 : World, (storeCells ⟨w.heap.size, 0, none⟩ cs.toList).run Try.prog w_v102 = .ok () w2 ∧ ∃ ds : List Value, ds.length = 2 ∧ (∀ (j : Nat) (v : Value), ds[j]? = some v → w2.cell? (Addr.add ⟨w.heap.size, 0, none⟩ j) = some v) ∧
      ∃ x y, Ending.returned (.tuple #[.agg ds.toArray, .bool false]) = .returned (.tuple #[.agg #[x, y], .bool (okL L)]) ∧ oneV x ∧ oneV y ∧ (okL L = true → x = sv ∧ y = fv) ∧ Grow w w2) (inR ((k : Int) + 1) ∧ ((∃ (k' : Nat) (kv : List (Int × Value)), (k : Int) + 1 = k' ∧ k' ≤ L.length ∧ okL (L.take k') = true ∧ MapI w_v102 w14.heap.size kv ∧ MapOf kv (L.take k') ∧ Fr (fun i => i = w14.heap.size) w26 w_v102) ∧ L.length - Int.toNat ((k : Int) + 1) < L.length - Int.toNat (k : Int))) := fun hlen => by
      obtain ⟨w95, hr95, hm95, f95⟩ := hm73.set (P := Try.prog) um uk L[k].1 (.int .i64 (L[k].2.length : Int))
      have f2695 := f73.trans f95
      have g95 := gW f2695
      have hc95 : RecV w95 w35.heap.size [.int .i64 L[k].1, u] := hc73.fr f95 fun e => by omega
      have hu95 := hu.grow (g1.trans g95)
      obtain ⟨ua, un, uc, ue, ul, uh, umm, ub, hv'⟩ := SlX.upto (hl.gr (g1.trans g95)) (ik := .i64) (K := fun x => SlA w95 x (L.take k)) rfl (Nat.le_of_lt hkl) fun v' hv' => hv'
      refine ⟨_, hc73.cell (j := 0) rfl, _, hc73.cell (j := 1) rfl, hu.ln ⟨w95, hr95, ua, un, uc, ue, ul, uh, umm, ub, ?_⟩⟩
      refine (containsFact_c (p := fun g => decide (g.1 = L[k].1) && decide (g.2 = L[k].2)) hv' ⟨52, #[], _, rfl, rfl, fun g hg w' u' gg hgu => ?_⟩).mono ?_
      · rw [app1]
        exact read1_c hgu (gg.cell (hc95.cell (j := 0) rfl)) (gg.cell (hc95.cell (j := 1) rfl)) (hu95.grow gg)
      · rintro e w102 ⟨rfl, g102⟩
        refine ⟨_, rfl, condP_i (fun hb => ?_) fun hb => ?_⟩
        · obtain ⟨g, hg, h2⟩ := List.any_eq_true.1 hb
          rw [Bool.and_eq_true, decide_eq_true_eq, decide_eq_true_eq] at h2
          exact no (g95.trans g102) (okL_bad hkl (notArG hg h2.1 (.inr h2.2)))
        · refine ⟨by unfold inR; omega, ⟨k + 1, _, by omega, by omega, ?_, hm95.grow g102, ?_, f2695.trans (Fr.of_grow g102)⟩, by omega⟩
          · rw [List.take_succ_eq_append_getElem hkl, okL_app, hok, Bool.true_and, okAr, hF, Bool.true_and, List.all_eq_true]
            intro g hg
            by_cases e : g.1 = L[k].1
            · have h2 : ¬ g.2 = L[k].2 := fun h2 => by
                have : (L.take k).any (fun g => decide (g.1 = L[k].1) && decide (g.2 = L[k].2)) = true := List.any_eq_true.2 ⟨g, hg, by rw [e, h2]; simp⟩
                rw [hb] at this
                cases this
              simp [e, h2, hlen g hg e]
            · simp [e]
          · rw [List.take_succ_eq_append_getElem hkl]
            exact hkv.upd hlen
    cases hg : getM kv L[k].1 with
    | none =>
      refine ⟨0, false, w73, rfl, cF rfl (next fun g hgm e => ?_)⟩
      have := hkv.has g hgm
      rw [e, hg] at this
      cases this
    | some v =>
      obtain ⟨f, hfm, e⟩ := hkv.is L[k].1 (by rw [hg]; simp)
      have hv := hkv.has f hfm
      rw [e, hg] at hv
      obtain rfl := Option.some.inj hv
      refine ⟨_, true, w73, rfl, cT rfl ⟨_, hc73.cell (j := 1) rfl, hu.ln (condP_i (fun hne => bad (g141.trans g4173) (notArG hfm e (.inl ?_))) fun heq => next fun g hgm e2 => ?_)⟩⟩
      · simp at hne
        omega
      · have := hkv.has g hgm
        rw [e2, hg] at this
        have h9 := Option.some.inj this
        simp at heq h9
        omega
  · have hkl : k = L.length := by omega
    subst hkl
    rw [List.take_length] at hok
    refine ⟨hs.one, SlX.one hl, RecV.store (cs := [sv, fv]) (hR.grow g35) rfl (by
      intro u hu
      simp at hu
      rcases hu with rfl | rfl
      · exact hs.one.2
      · exact (SlX.one hl).2) fun w2 hf hr => ⟨[_, _], rfl, hr.all, _, _, (by rw [hok]), hs.one, SlX.one hl, fun _ => ⟨rfl, rfl⟩, (g1.trans g35).fr hf fun i hi e => by omega⟩⟩
end Go.Proofs.Ytleiddajojgmmaa

/- Contracts: keys and blocks, by the program. No condition. -/
namespace Go.Proofs.Ytleiddajojgmmaa
open Go Go.RowKit VC
set_option linter.unusedSimpArgs false
set_option linter.unusedVariables false

theorem okS_get {s : List Int} (hS : okS s = true) {r : Int} (h0 : 0 ≤ r) (h5 : r ≤ 5) : ∃ h : r.toNat < s.length, s[r.toNat] = (klS s r : Int) ∧ klS s r ≤ 3 := by
  obtain ⟨h6, hx⟩ := okS_out hS
  have h : r.toNat < s.length := by omega
  have e : s.getD r.toNat 0 = s[r.toNat] := by simp [List.getD, h]
  have := hx _ (List.getElem_mem h)
  refine ⟨h, ?_, ?_⟩
  · unfold klS; rw [e]; omega
  · unfold klS; rw [e]; omega
theorem take_min {α : Type} (xs : List α) (k : Nat) : xs.take (min k xs.length) = xs.take k := by
  rcases Nat.lt_or_ge k xs.length with h | h
  · rw [Nat.min_eq_left (by omega)]
  · rw [Nat.min_eq_right h, List.take_length, List.take_of_length_le h]
theorem key_c {w : World} {sv fv u : Value} {s : List Int} {r : Int} {xs : List Int} (hs : SlI w sv s) (hS : okS s = true) (h0 : 0 ≤ r) (h5 : r ≤ 5) (hu : SlI w u xs) :
    ∃ v', SlI w v' (xs.take (klS s r)) ∧ ∀ w2, Grow w w2 → Calls Try.prog 97 #[.agg #[sv, fv], .int .i64 r, u] w2 (Ret w2 v') := by
  obtain ⟨hi, e, h3⟩ := okS_get hS h0 h5
  obtain ⟨ua, un, uc, ue, ul, uh, um, ub, hv'⟩ := hu.upto (i := min (klS s r) xs.length) (k := .i64) (K := fun x => SlI w x (xs.take (klS s r))) rfl (Nat.min_le_right _ _) fun v' h => by rwa [take_min] at h
  obtain ⟨a0, c0, e0, -⟩ := SlC.ex hu
  have en : un = xs.length := by
    rw [e0] at ue
    injection ue with _ h _
    exact h.symm
  refine ⟨_, hv', fun w2 g => f97_calls _ _ _ ?_⟩
  refine ⟨_, rfl, fun w3 hw3 => ?_⟩
  have g3 := alloc_grow hw3
  refine ⟨_, boxc hw3 0 _ rfl, (hs.grow (g.trans g3)).rd (by omega) hi ⟨ua, un, uc, ue, ua, un, uc, ue, ul, uh, um, ?_, rfl, g3⟩⟩
  have ez : (if (un : Int) < s[r.toNat] then (un : Int) else s[r.toNat]) = ((min (klS s r) xs.length : Nat) : Int) := by
    rw [e, en]
    split <;> omega
  rw [ez]
  exact ub
theorem block1_c {w : World} {sv fv u u' : Value} {s : List Int} {r r' : Int} {xs ys : List Int} {p q : Addr} (hs : SlI w sv s) (hS : okS s = true) (h0 : 0 ≤ r) (h5 : r ≤ 5) (hu : SlI w u xs) (hu' : SlI w u' ys) (c0 : w.cell? (p.add 0) = some (.int .i64 r')) (c1 : w.cell? (p.add 1) = some u') (b0 : w.cell? (q.add 0) = some sv) (b1 : w.cell? (q.add 1) = some fv) :
    Calls Try.prog 96 #[.agg #[.int .i64 r, u], .pointer (some p), .pointer (some q)] w (Ret w (.bool (decide (kF (klS s) (r, xs) = kF (klS s) (r', ys))))) := by
  refine f96_calls _ _ _ ?_
  refine ⟨_, rfl, fun w1 hw1 => ?_⟩
  have g1 := alloc_grow hw1
  refine ⟨_, boxc hw1 0 _ rfl, _, g1.cell c0, condD (fun h => ?_) fun h => ?_⟩
  · obtain ⟨v1, hv1, k1⟩ := key_c (fv := fv) (hs.grow g1) hS h0 h5 (hu.grow g1)
    obtain ⟨v2, hv2, k2⟩ := key_c (fv := fv) (hs.grow g1) hS (h ▸ h0) (h ▸ h5) (hu'.grow g1)
    refine ⟨[sv, fv], rfl, two (g1.cell b0) (g1.cell b1), _, boxc hw1 0 _ rfl, _, boxc hw1 1 _ rfl, v1, fun w8 g8 => k1 w8 g8, [sv, fv], rfl, two (g1.cell b0) (g1.cell b1), _, g1.cell c0, _, g1.cell c1, v2, fun w15 g15 => k2 w15 g15, _, fun w19 g19 => equal_c (hv1.grow g19) (hv2.grow g19), fun w23 g23 => ⟨?_, g1.trans g23⟩⟩
    have : (kF (klS s) (r, xs) = kF (klS s) (r', ys)) ↔ xs.take (klS s r) = ys.take (klS s r') := by
      unfold kF
      rw [Prod.mk.injEq]
      exact ⟨fun h => h.2, fun h2 => ⟨h, h2⟩⟩
    rw [decide_eq_decide.2 this]
  · intro w24 g24
    refine ⟨?_, g1.trans g24⟩
    rw [decide_eq_false fun e => h (kF_rel e)]
theorem blk_idx {kl : Int → Nat} {L : List Atm} {i : Nat} (hi : i < L.length) : idxOf (fun g => decide (kF kl g = kF kl (fa L i))) L = (blkN kl L i : Int) := by
  obtain ⟨h1, h2, h3⟩ := blk_spec (kl := kl) hi
  have hl := blk_lt (kl := kl) hi
  refine idxOf_some hl ?_ fun j hj hlt => ?_
  · rw [← fa_get hl, decide_eq_true h2]
  · rw [← fa_get hj, decide_eq_false (h3 j hlt)]
theorem okF_rel {f : Atm} (h : okF f = true) : 0 ≤ f.1 ∧ f.1 ≤ 5 := by
  have := okF_iff.1 h
  exact ⟨this.1, this.2.1⟩
theorem okR_all {s : List Int} {L : List Atm} (h : okR s L = true) : ∀ f ∈ L, okF f = true := by
  simp only [okR_okL, okL, Bool.and_eq_true, List.all_eq_true] at h
  exact h.2.1
theorem block_c {w : World} {sv fv : Value} {s : List Int} {L : List Atm} (hs : SlI w sv s) (hl : SlA w fv L) (hR : okR s L = true) {i : Nat} (hi : i < L.length) :
    Calls Try.prog 53 #[.agg #[sv, fv], .int .i64 (i : Int)] w (Ret w (.int .i64 (blkN (klS s) L i : Int))) := by
  refine f53_calls _ _ ?_
  refine ⟨_, rfl, fun w1 hw1 => ?_⟩
  have g1 := alloc_grow hw1
  have hB := RecV.new hw1
  refine ⟨_, boxc hw1 1 _ rfl, locR hl g1 rfl hi rfl fun w9 u g9 s9 hu hc => ⟨_, g9.cell (boxc hw1 1 _ rfl), ?_⟩⟩
  have g09 := g1.trans g9
  refine (indexFact_c (p := fun g => decide (kF (klS s) g = kF (klS s) (fa L i))) (hl.gr g09) ⟨96, #[], _, rfl, rfl, fun g hg w' u' gg hgu => ?_⟩).mono ?_
  · have hr := okF_rel (okR_all hR g hg)
    have := block1_c (fv := fv) (hs.grow (g09.trans gg)) (okR_out hR).1 hr.1 hr.2 hgu (hu.grow (g09.trans gg)) (gg.cell (hc.cell (j := 0) rfl)) (gg.cell (hc.cell (j := 1) rfl)) ((hB.grow (g9.trans gg)).cell (j := 0) rfl) ((hB.grow (g9.trans gg)).cell (j := 1) rfl)
    rw [← fa_get hi] at this
    exact this
  · rintro e w12 ⟨rfl, g12⟩
    exact ⟨_, rfl, by rw [blk_idx hi], g09.trans g12⟩
end Go.Proofs.Ytleiddajojgmmaa

/- Contracts: all repairs, by the program (a map gone through in any order, then sorted). No condition. -/
namespace Go.Proofs.Ytleiddajojgmmaa
open Go Go.RowKit VC
set_option linter.unusedSimpArgs false
set_option linter.unusedVariables false

def natI (l : List Nat) : List Int := l.map fun (x : Nat) => (x : Int)
theorem natI_len (l : List Nat) : (natI l).length = l.length := by simp [natI]
theorem natI_get {l : List Nat} {i : Nat} (hi : i < l.length) (hi' : i < (natI l).length) : (natI l)[i] = (l[i] : Int) := by simp [natI]
theorem natI_app (l l' : List Nat) : natI (l ++ l') = natI l ++ natI l' := by simp [natI]
theorem sortI_c {w : World} {B : Nat} {v : Value} {xs : List Int} (h : OwnI w B v xs) (hlen : xs.length < 4611686018427387904) : Calls Try.prog 54 #[v] w fun e w' => e = .returned (.tuple #[]) ∧ OwnI w' B v (xs.mergeSort fun x y => decide (x ≤ y)) ∧ Fr (fun k => some k = v.ownBlock) w w' := by
  rcases h.2 with ⟨rfl, h0⟩ | ⟨g, cap, cur, rfl, hb, hgg, hnc, hcm, hcs, htake⟩
  · have hx : xs = [] := by simpa using h0
    subst hx
    refine (Try.slices_Sort_int_none none 0 w).mono ?_
    rintro e w' ⟨rfl, rfl⟩
    exact ⟨rfl, by simpa using h, Fr.refl _ _⟩
  · have ht : cur.toList.take xs.length = xs.map (Value.int .i64) := by
      have h := htake
      rw [Nat.mul_one] at h
      exact h
    have hH := Go.holds_of_blockI hgg ht
    refine (Try.slices_Sort_int g 0 cap xs w hH (Array.getElem?_eq_some_iff.1 hgg).1 hlen).mono ?_
    rintro e w' ⟨rfl, n, os, rfl⟩
    have hl : (xs.mergeSort fun x y => decide (x ≤ y)).length = xs.length := by simp
    refine ⟨rfl, ?_, Fr.of_grown (Go.grownBy_sortedI _)⟩
    have := Go.ownsRow_sortedI (base := B) (n := n) (os := os) (ss := xs) (ts := xs.mergeSort fun x y => decide (x ≤ y)) (e := 3) (cap := cap) hl hb hgg hnc hcm hcs
    unfold OwnI
    rw [hl]
    exact this
theorem sort_nat (cs : List Nat) : ∃ ds : List Nat, (natI cs).mergeSort (fun x y => decide (x ≤ y)) = natI ds ∧ ds.Perm cs ∧ ds.Pairwise (· ≤ ·) := by
  have hp := List.mergeSort_perm (natI cs) (fun x y => decide (x ≤ y))
  have hs := List.pairwise_mergeSort (le := fun x y : Int => decide (x ≤ y)) (fun a b c h1 h2 => by simp at h1 h2 ⊢; omega) (fun a b => by simp; omega) (natI cs)
  generalize (natI cs).mergeSort (fun x y => decide (x ≤ y)) = l at hp hs
  have hnn : ∀ x ∈ l, 0 ≤ x := fun x hx => by
    have := hp.subset hx
    obtain ⟨n, _, rfl⟩ := List.mem_map.1 this
    omega
  have e : natI (l.map Int.toNat) = l := by
    unfold natI
    rw [List.map_map]
    conv => rhs; rw [← List.map_id l]
    exact List.map_congr_left fun x hx => by have := hnn x hx; simp; omega
  refine ⟨l.map Int.toNat, e.symm, ?_, ?_⟩
  · have := hp.map Int.toNat
    have e2 : (natI cs).map Int.toNat = cs := by
      unfold natI
      rw [List.map_map]
      conv => rhs; rw [← List.map_id cs]
      exact List.map_congr_left fun x _ => by simp
    rwa [e2] at this
  · rw [List.pairwise_map]
    exact hs.imp fun h => by simp at h; omega
/-- The set of all repairs, sorted. -/
theorem sort_allR {kl : Int → Nat} {L : List Atm} {cs : List Nat} (hn : cs.Nodup) (hm : ∀ r, r ∈ cs ↔ r ∈ allR kl L) : (natI cs).mergeSort (fun x y => decide (x ≤ y)) = natI (allR kl L) := by
  obtain ⟨ds, e, hp, hs⟩ := sort_nat cs
  rw [e]
  congr 1
  have hd : ds.Nodup := hp.nodup_iff.2 hn
  refine inc_uniq ?_ inc_allR fun a => (hp.mem_iff).trans (hm a)
  exact (List.pairwise_and_iff.2 ⟨hs, hd⟩).imp fun h => by have := h.1; have := h.2; omega
/-! ## The map of the blocks -/
theorem getM_map (f : Nat → Value) (j : Nat) : ∀ l : List Nat, getM (l.map fun (i : Nat) => ((i : Int), f i)) (j : Int) = if j ∈ l then some (f j) else none
  | [] => rfl
  | a :: r => by
    rw [List.map_cons, getM_cons, getM_map f j r]
    by_cases h : j = a
    · subst h; simp
    · have : ¬ (j : Int) = (a : Int) := by omega
      simp [h, this]
theorem updM_map (f : Nat → Value) (j : Nat) (v : Value) : ∀ l : List Nat, l.Nodup → updM (l.map fun (i : Nat) => ((i : Int), f i)) (j : Int) v = if j ∈ l then l.map (fun (i : Nat) => ((i : Int), if i = j then v else f i)) else l.map (fun (i : Nat) => ((i : Int), f i)) ++ [((j : Int), v)]
  | [], _ => rfl
  | a :: r, hn => by
    rw [List.nodup_cons] at hn
    rw [List.map_cons]
    unfold updM
    by_cases h : j = a
    · subst h
      rw [if_pos rfl, if_pos (List.mem_cons_self ..), List.map_cons, if_pos rfl]
      congr 1
      refine List.map_congr_left fun i hi => ?_
      rw [if_neg (fun e : i = j => hn.1 (e ▸ hi))]
    · have hne : ¬ (j : Int) = (a : Int) := by omega
      rw [if_neg hne, updM_map f j v r hn.2]
      by_cases hr : j ∈ r
      · rw [if_pos hr, if_pos (List.mem_cons_of_mem _ hr), List.map_cons, if_neg (fun e => h e.symm)]
      · rw [if_neg hr, if_neg (by simp [h, hr])]
        rfl
def keysN (kl : Int → Nat) (L : List Atm) (k : Nat) : List Nat := (List.range k).filter fun i => decide (blkN kl L i = i)
def encM (l : List (Nat × Nat)) : List (Int × Value) := l.map fun p => ((p.1 : Int), .int .i64 (p.2 : Int))
theorem encM_kv (kl : Int → Nat) (L : List Atm) (k : Nat) : encM (kvP kl L k) = (keysN kl L k).map fun (i : Nat) => ((i : Int), Value.int .i64 (bmask kl L k i : Int)) := by
  unfold encM kvP keysN
  rw [List.map_map]
  rfl
theorem mem_keysN {kl : Int → Nat} {L : List Atm} {k i : Nat} : i ∈ keysN kl L k ↔ i < k ∧ blkN kl L i = i := by
  unfold keysN
  rw [List.mem_filter, List.mem_range, decide_eq_true_eq]
theorem bmask_none {kl : Int → Nat} {L : List Atm} {k j : Nat} (h : ∀ i, i < k → blkN kl L i ≠ j) : bmask kl L k j = 0 := Nat.eq_of_testBit_eq fun i => by
  rw [Nat.zero_testBit, ← Bool.not_eq_true, bmask_bit]
  exact fun h2 => h i h2.1 h2.2
theorem kv_get {kl : Int → Nat} {L : List Atm} {k : Nat} (hk : k < L.length) : (getM (encM (kvP kl L k)) (blkN kl L k : Int)).getD (.int .i64 0) = .int .i64 (bmask kl L k (blkN kl L k) : Int) := by
  rw [encM_kv, getM_map fun i => Value.int .i64 (bmask kl L k i : Int)]
  split
  · rfl
  · rename_i h
    rw [bmask_none fun i hi e => h (mem_keysN.2 ⟨?_, blk_blk hk⟩)]
    · rfl
    · have := (blk_spec (kl := kl) (L := L) (i := i) (by omega)).1
      omega
theorem kv_upd {kl : Int → Nat} {L : List Atm} {k : Nat} (hk : k < L.length) : updM (encM (kvP kl L k)) (blkN kl L k : Int) (.int .i64 ((bmask kl L k (blkN kl L k) ||| 2 ^ k : Nat) : Int)) = encM (kvP kl L (k + 1)) := by
  have hn : (keysN kl L k).Nodup := List.nodup_range.filter _
  have step : ∀ i, bmask kl L (k + 1) i = if i = blkN kl L k then bmask kl L k (blkN kl L k) ||| 2 ^ k else bmask kl L k i := fun i => by
    conv => lhs; unfold bmask
    by_cases e : i = blkN kl L k
    · subst e; simp
    · rw [if_neg (fun h => e h.symm), if_neg e]
  rw [encM_kv, encM_kv, updM_map (fun i => Value.int .i64 (bmask kl L k i : Int)) _ _ _ hn]
  have keys : keysN kl L (k + 1) = keysN kl L k ++ (if blkN kl L k = k then [k] else []) := by
    unfold keysN
    rw [List.range_succ, List.filter_append]
    congr 1
    by_cases e : blkN kl L k = k <;> simp [e]
  split
  · rename_i h
    have hlt := (mem_keysN.1 h).1
    rw [keys, if_neg (by omega), List.append_nil]
    refine List.map_congr_left fun i hi => ?_
    rw [step]
    split <;> rfl
  · rename_i h
    have e : blkN kl L k = k := by
      have h1 := (blk_spec (kl := kl) hk).1
      have h2 := blk_blk (kl := kl) hk
      refine Classical.byContradiction fun hne => h (mem_keysN.2 ⟨by omega, h2⟩)
    rw [keys, if_pos e, List.map_append]
    congr 1
    · refine List.map_congr_left fun i hi => ?_
      rw [step, if_neg (by have := (mem_keysN.1 hi).1; omega)]
    · rw [List.map_cons, List.map_nil, step, e, if_pos rfl]
/-! ## A range over it -/
theorem perm_enc {l : List (Nat × Nat)} {p : Int × Value} {left : List (Int × Value)} (h : (encM l).Perm (p :: left)) : ∃ q l', p = ((q.1 : Int), .int .i64 (q.2 : Int)) ∧ left = encM l' ∧ l.Perm (q :: l') := by
  let dec : Int × Value → Nat × Nat := fun p => (p.1.toNat, match p.2 with | .int _ z => z.toNat | _ => 0)
  have hdec : ∀ q : Nat × Nat, dec ((q.1 : Int), .int .i64 (q.2 : Int)) = q := fun q => by simp [dec]
  have mem : ∀ x ∈ p :: left, ((((dec x).1 : Nat) : Int), Value.int .i64 (((dec x).2 : Nat) : Int)) = x := fun x hx => by
    obtain ⟨q, hq, rfl⟩ := List.mem_map.1 (h.mem_iff.2 hx)
    rw [hdec]
  refine ⟨dec p, left.map dec, (mem p (List.mem_cons_self ..)).symm, ?_, ?_⟩
  · unfold encM
    rw [List.map_map]
    conv => lhs; rw [← List.map_id left]
    exact List.map_congr_left fun x hx => (mem x (List.mem_cons_of_mem _ hx)).symm
  · have := h.map dec
    rw [encM, List.map_map, List.map_cons] at this
    have e : l.map (dec ∘ fun p : Nat × Nat => ((p.1 : Int), Value.int .i64 (p.2 : Int))) = l := by
      conv => rhs; rw [← List.map_id l]
      exact List.map_congr_left fun x _ => hdec x
    rwa [e] at this
def itLeft (w : World) (b r : Nat) : Nat := match w.heap[b]?, w.heap[r]? with
  | some (.map es _), some (.mapIter _ _ seen _) => (es.toList.filter fun e => !seen.contains e.born).length
  | _, _ => 0
theorem itLeft_eq {w : World} {b r : Nat} {kv left : List (Int × Value)} (h : ItS w b r kv left) : itLeft w b r = left.length := by
  obtain ⟨es, clock, since, seen, c0, h1, h2, h3, h4, h5, h6, h7, rfl⟩ := h.ex
  unfold itLeft
  rw [h1, h5]
  simp
/-! ## The bits of a set, one by one -/
def lowOk (s : Nat) : Bool := s == 0 || iAnd .i64 (s : Int) (0 - (s : Int)) == ((2 ^ tz s : Nat) : Int)
theorem lowAll' : ∀ a, a < 64 → ∀ b, b < 64 → lowOk (a * 64 + b) = true := by decide +kernel
theorem low_bit {s : Nat} (hs : s < 4096) (h0 : s ≠ 0) : iAnd .i64 (s : Int) (0 - (s : Int)) = ((2 ^ tz s : Nat) : Int) := by
  have := all4096 (p := fun s => lowOk s = true) lowAll' s hs
  simp only [lowOk, Bool.or_eq_true, beq_iff_eq] at this
  exact this.resolve_left h0
theorem bitsOf_els {n s : Nat} (hn : n ≤ 12) (hs : s < 2 ^ n) : bitsOf n s = els s := by
  unfold bitsOf els
  have : List.range 12 = List.range n ++ (List.range (12 - n)).map (n + ·) := by
    rw [← List.range_add]
    congr 1
    omega
  rw [this, List.filter_append]
  have e : ((List.range (12 - n)).map (n + ·)).filter s.testBit = [] := List.filter_eq_nil_iff.2 fun x hx => by
    obtain ⟨j, _, rfl⟩ := List.mem_map.1 hx
    intro hb
    have := bit_lt hs hb
    omega
  rw [e, List.append_nil]
theorem kv_small {kl : Int → Nat} {L : List Atm} {p : Nat × Nat} {k : Nat} (h : p ∈ kvP kl L k) : p.2 < 2 ^ k := by
  unfold kvP at h
  obtain ⟨i, _, rfl⟩ := List.mem_map.1 h
  refine Nat.lt_pow_two_of_testBit _ fun j hj => ?_
  rw [← Bool.not_eq_true, bmask_bit]
  omega
theorem prodR_small {n : Nat} {sets : List Nat} (hd : sets.Pairwise fun s t => s &&& t = 0) (hb : ∀ s ∈ sets, s < 2 ^ n) : ∀ r ∈ prodR n sets, r < 2 ^ n := fun r hr => by
  have h := ((mem_prodR hd hb r).1 hr).1
  refine Nat.lt_pow_two_of_testBit _ fun i hi => ?_
  rw [← Bool.not_eq_true]
  intro hbit
  obtain ⟨s, hs, h3⟩ := h i hbit
  have := bit_lt (hb s hs) h3
  omega
theorem prodR_len {n : Nat} {sets : List Nat} (hd : sets.Pairwise fun s t => s &&& t = 0) (hb : ∀ s ∈ sets, s < 2 ^ n) : (prodR n sets).length ≤ 2 ^ n := by
  have := sub_len (l' := List.range (2 ^ n)) (nodup_prodR hd hb) fun r hr => List.mem_range.2 (prodR_small hd hb r hr)
  rwa [List.length_range] at this
end Go.Proofs.Ytleiddajojgmmaa

/- Contracts: all repairs, and their number, by the program. No condition. -/
namespace Go.Proofs.Ytleiddajojgmmaa
open Go Go.RowKit VC
set_option linter.unusedSimpArgs false
set_option linter.unusedVariables false

theorem bmask_lt (kl : Int → Nat) (L : List Atm) (k j : Nat) : bmask kl L k j < 2 ^ k := Nat.lt_pow_two_of_testBit _ fun i hi => by
  rw [← Bool.not_eq_true, bmask_bit]
  omega
theorem kv_sets {kl : Int → Nat} {L : List Atm} {sets rest : List Nat} (h : (sets ++ rest).Perm ((kvP kl L L.length).map Prod.snd)) : (sets.Pairwise fun s t => s &&& t = 0) ∧ ∀ s ∈ sets ++ rest, s < 2 ^ L.length := by
  have hd : (sets ++ rest).Pairwise fun s t => s &&& t = 0 := by
    refine (h.pairwise_iff (fun {a b} h => by rw [Nat.and_comm]; exact h)).2 ?_
    unfold kvP
    rw [List.map_map, List.pairwise_map]
    refine List.Pairwise.imp_of_mem (R := fun a b => a ≠ b) (fun {a b} _ _ hab => ?_) (List.nodup_range.filter _)
    refine Classical.byContradiction fun h0 => ?_
    obtain ⟨x, h1, h2⟩ := and_ne_zero.1 h0
    have h1 := (bmask_bit _ _ _).1 h1
    have h2 := (bmask_bit _ _ _).1 h2
    exact hab (h1.2.symm.trans h2.2)
  refine ⟨(List.pairwise_append.1 hd).1, fun s hs => ?_⟩
  obtain ⟨p, hp, rfl⟩ := List.mem_map.1 (h.mem_iff.1 hs)
  exact kv_small hp
theorem mulR_succ (n : Nat) (R : List Nat) (s : Nat) {i : Nat} (hi : i < R.length) : mulR n (R.take (i + 1)) s = mulR n (R.take i) s ++ (bitsOf n s).map fun j => R[i] ||| 2 ^ j := by
  unfold mulR
  rw [List.take_succ_eq_append_getElem hi, List.flatMap_append, List.flatMap_cons, List.flatMap_nil, List.append_nil]
theorem mulR_len (n : Nat) (R : List Nat) (s : Nat) : (mulR n R s).length = R.length * (bitsOf n s).length := by
  unfold mulR
  induction R with
  | nil => simp
  | cons a r ih => rw [List.flatMap_cons, List.length_append, ih, List.length_map, List.length_cons, Nat.succ_mul]; omega
theorem bitsOf_len (n s : Nat) : (bitsOf n s).length ≤ n := by
  have := List.length_filter_le s.testBit (List.range n)
  rwa [List.length_range] at this
/-- An array of the call's own that takes one more number. -/
theorem ownApp {w w' : World} {B : Nat} {v : Value} {l : List Nat} {x : Nat} (h : Own w' B 3 1 v ((natI l).length + 1) ((natI l).map encI ++ [.int .i64 (x : Int)])) : OwnI w' B v (natI (l ++ [x])) := by
  unfold OwnI
  rw [natI_app, List.length_append, List.map_append]
  exact h
theorem repairs_c {w : World} {sv fv : Value} {s : List Int} {L : List Atm} (hs : SlI w sv s) (hl : SlA w fv L) (hR : okR s L = true) :
    Calls Try.prog 27 #[.agg #[sv, fv]] w fun e w' => ∃ v, e = .returned v ∧ SlI w' v (natI (allR (klS s) L)) ∧ Grow w w' := by
  refine f27_calls _ ?_
  obtain ⟨um, uk, ui, uz⟩ := el_mapI
  have h12 := (okR_out hR).2.1
  have hpow : 2 ^ L.length ≤ 2 ^ 12 := Nat.pow_le_pow_right (by omega) h12
  refine ⟨_, rfl, fun w1 hw1 => ?_⟩
  have g1 := alloc_grow hw1
  have s1 := alloc_size hw1
  have hB := RecV.new hw1
  refine VC.MapSt.make _ w1 fun w3 hw3 hm3 g3 s3 => ?_
  refine ⟨_, (hB.grow g3).cell (j := 1) rfl, SlX.ln (hl.gr (g1.trans g3)) ?_⟩
  obtain ⟨kl, hkl⟩ : ∃ kl, kl = klS s := ⟨_, rfl⟩
  refine ⟨fun t w' => ∃ k : Nat, t = k ∧ k ≤ L.length ∧ VC.MapSt w' w1.heap.size (encM (kvP (klS s) L k)) ∧ Fr (fun i => i = w1.heap.size) w3 w', fun t _ => L.length - t.toNat, ⟨0, rfl, by omega, hm3, Fr.refl _ _⟩, ?_⟩
  rintro - t w13 ⟨k, rfl, hk, hm13, hf13⟩
  have gW : ∀ {w'}, Fr (fun i => i = w1.heap.size) w3 w' → Grow w w' := fun hf => (g1.trans g3).fr hf fun i hi e => by omega
  have g13 := gW hf13
  have s13 := hf13.size
  refine condD (fun hlt => ?_) fun hge => ?_
  · intro m
    have hkl2 : k < L.length := by omega
    have gm : Grow w13 (dr w13 m.1) := (Grow.refl w13).dr m.1
    refine ⟨by omega, [_, _], rfl, (((hB.grow g3).fr hf13 (by omega)).grow gm).all, (block_c (hs.grow (g13.trans gm)) (hl.gr (g13.trans gm)) hR hkl2).mono ?_⟩
    rintro e w16 ⟨rfl, g16⟩
    have hm16 := (hm13.grow gm).grow g16
    have hget := hm16.toI.get (P := Try.prog) um uk ui uz (blkN (klS s) L k : Int) false
    rw [if_neg (by decide), kv_get hkl2] at hget
    obtain ⟨w21, hr21, hm21, f21⟩ := hm16.set (P := Try.prog) um uk (blkN (klS s) L k : Int) (.int .i64 ((bmask (klS s) L k (blkN (klS s) L k) ||| 2 ^ k : Nat) : Int))
    rw [kv_upd hkl2] at hm21
    refine ⟨_, rfl, _, w16, hget, w21, ?_, by unfold inR; omega, ⟨k + 1, by omega, by omega, hm21, (hf13.trans (Fr.of_grow (gm.trans g16))).trans f21⟩, by dsimp only; omega⟩
    have h1 := bmask_lt (klS s) L k (blkN (klS s) L k)
    have h2 : 2 ^ k ≤ 2 ^ 12 := Nat.pow_le_pow_right (by omega) (by omega)
    rw [iShl_one (by omega), iOr_nat (by omega) (by omega)]
    exact hr21
  · have hkL : k = L.length := by omega
    subst hkL
    intro w22 hw22
    have g22 := alloc_grow hw22
    have s22 := alloc_size hw22
    have out0 : OwnI w22 w13.heap.size (.slice (some ⟨w13.heap.size, 0, none⟩) 1 1) (natI (prodR L.length [])) := Own.lit (B := w13.heap.size) (n := 1) (sz := 1) hw22 (Nat.le_refl _) (by omega) (by simp)
    refine VC.MapSt.range um (hm13.grow g22) fun w23 hit23 g23 s23 => ?_
    have gw23 := (g13.trans g22).trans g23
    refine ⟨fun out w' => ∃ (sets : List Nat) (lft : List (Nat × Nat)), (sets ++ lft.map Prod.snd).Perm ((kvP (klS s) L L.length).map Prod.snd) ∧ ItS w' w1.heap.size w22.heap.size (encM (kvP (klS s) L L.length)) (encM lft) ∧ OwnI w' w13.heap.size out (natI (prodR L.length sets)) ∧ (∀ b, out.ownBlock = some b → b ≠ w22.heap.size) ∧ Grow w w' ∧ w23.heap.size ≤ w'.heap.size,
      fun _ w' => itLeft w' w1.heap.size w22.heap.size, ⟨[], kvP (klS s) L L.length, List.Perm.refl _, hit23, Own.grow out0 g23, fun b hb e => ?_, gw23, Nat.le_refl _⟩, ?_⟩
    · simp [Value.ownBlock] at hb
      omega
    rintro - out w29 ⟨sets, lft, hp, hit, ho, hne, gw, hsz⟩
    obtain ⟨hdis, hbd⟩ := kv_sets hp
    have hRl : (prodR L.length sets).length ≤ 4096 := by
      have := prodR_len hdis fun s hs => hbd s (List.mem_append_left _ hs)
      omega
    have hRs : ∀ r ∈ prodR L.length sets, r < 4096 := fun r hr => by
      have := prodR_small hdis (fun s hs => hbd s (List.mem_append_left _ hs)) r hr
      omega
    rcases hit.next (P := Try.prog) (by omega) 0 with ⟨hnil, hrun⟩ | ⟨p, left', w35, hperm, hrun, hit', hf35, hent⟩
    · refine ⟨fun t w' => t = false ∧ w' = w29, .inl ⟨w29, hrun, rfl, rfl⟩, ?_⟩
      rintro - t w37 ⟨rfl, rfl⟩
      have hl0 : lft = [] := by
        unfold encM at hnil
        exact List.map_eq_nil_iff.1 hnil
      subst hl0
      have hall := prod_all (kl := klS s) (L := L) (sets := sets) (by simpa using hp)
      refine cF rfl ((sortI_c ho (by rw [natI_len]; omega)).mono ?_)
      rintro e w63 ⟨rfl, ho', hf'⟩
      rw [sort_allR hall.1 hall.2] at ho'
      exact ⟨rfl, _, rfl, Own.slI ho', gw.fr hf' fun i hi e => by have := (Own.lt ho e.symm).1; have := g13.size; omega⟩
    · obtain ⟨q, lft', rfl, rfl, hperm2⟩ := perm_enc hperm
      refine ⟨fun t w' => t = true ∧ w' = w35, .inr ⟨_, _, w35, hrun, rfl, rfl⟩, ?_⟩
      rintro - t w37 ⟨rfl, rfl⟩
      refine cT rfl ⟨_, _, w37, hent, ?_⟩
      obtain ⟨S, hS⟩ : ∃ S, S = q.2 := ⟨_, rfl⟩
      have hSm : S < 2 ^ L.length := hbd S (List.mem_append_right _ (List.mem_map.2 ⟨q, hperm2.mem_iff.2 (List.mem_cons_self ..), hS.symm⟩))
      have hS4 : S < 4096 := by omega
      have hbits : bitsOf L.length S = els S := bitsOf_els h12 hSm
      have s35 := hf35.size
      have ho35 : OwnI w37 w13.heap.size out (natI (prodR L.length sets)) := Own.fr ho hf35 fun b hb e => hne b hb e
      obtain ⟨R, hRR⟩ : ∃ R, R = prodR L.length sets := ⟨_, rfl⟩
      rw [← hRR] at ho35 hRl hRs
      have g35 : Grow w w37 := gw.fr hf35 fun i hi e => by have := g13.size; omega
      have hso : SlI w37 out (natI R) := Own.slI ho35
      rw [← hS]
      refine hso.ln ?_
      rw [natI_len]
      refine ⟨fun next t w' => ∃ i : Nat, t = i ∧ i ≤ R.length ∧ OwnI w' w37.heap.size next (natI (mulR L.length (R.take i) S)) ∧ Grow w37 w', fun _ t _ => R.length - t.toNat, ⟨0, rfl, by omega, Own.nil _ _ _ _, Grow.refl _⟩, ?_⟩
      rintro - next t w49 ⟨i, rfl, hi, hn, g49⟩
      refine condD (fun hlt => ?_) fun hge2 => ?_
      · have hil : i < R.length := by omega
        refine (hso.grow g49).rd rfl (by rw [natI_len]; exact hil) ?_
        rw [natI_get hil]
        have hri := hRs _ (List.getElem_mem hil)
        refine ⟨fun nx left w' => ∃ (l : Nat) (done : List Nat), left = l ∧ done ++ els l = els S ∧ l < 4096 ∧ OwnI w' w37.heap.size nx (natI (mulR L.length (R.take i) S ++ done.map fun j => R[i] ||| 2 ^ j)) ∧ Grow w37 w', fun _ left _ => left.toNat, ⟨S, [], rfl, rfl, hS4, by rw [List.map_nil, List.append_nil]; exact hn, g49⟩, ?_⟩
        rintro - nx left w59 ⟨l, done, rfl, hd, hl4, hnx, g59⟩
        refine condP_i (fun hne2 => ?_) fun heq => ?_
        · have hl0 : l ≠ 0 := by simp at hne2; omega
          obtain ⟨e1, e2, e3⟩ := els_step hl4 hl0
          refine ⟨by unfold inR; omega, ?_⟩
          have ht : 2 ^ tz l ≤ 2 ^ 11 := Nat.pow_le_pow_right (by omega) (by omega)
          rw [low_bit hl4 hl0, iOr_nat (by omega) (by omega)]
          intro w60 hw60
          have hdl : done.length ≤ 12 := by
            have := congrArg List.length hd
            rw [List.length_append] at this
            have h2 : (els S).length ≤ 12 := by
              have := List.length_filter_le S.testBit (List.range 12)
              rwa [List.length_range] at this
            omega
          have hlen : (natI (mulR L.length (R.take i) S ++ done.map fun j => R[i] ||| 2 ^ j)).length ≤ 60000 := by
            rw [natI_len, List.length_append, List.length_map, mulR_len, List.length_take]
            have h1 := bitsOf_len L.length S
            have h2 : min i R.length * (bitsOf L.length S).length ≤ 4096 * 12 := Nat.mul_le_mul (by omega) (by omega)
            omega
          refine papp1 el_int hw60 hnx rfl g59.size (by omega) (by omega) fun v' w' ho2 hf2 _ => ⟨by unfold inR; omega, ⟨l &&& (l - 1), done ++ [tz l], ?_, ?_, by omega, ?_, ?_⟩, ?_⟩
          · rw [show ((l : Int) - 1) = ((l - 1 : Nat) : Int) by omega, iAnd_nat (by omega) (by omega)]
          · rw [List.append_assoc, ← hd, e1]
            rfl
          · have := ownApp (w := w59) ho2
            rw [List.map_append, ← List.append_assoc]
            exact this
          · exact (g59.trans (alloc_grow hw60)).fr hf2 fun b hb e => by have := (Own.lt hnx e.symm).1; omega
          · rw [show ((l : Int) - 1) = ((l - 1 : Nat) : Int) by omega, iAnd_nat (by omega) (by omega)]
            dsimp only
            omega
        · have hl0 : l = 0 := by simp at heq; omega
          subst hl0
          rw [els_zero, List.append_nil] at hd
          refine ⟨by unfold inR; omega, ⟨i + 1, by omega, by omega, ?_, g59⟩, by dsimp only; omega⟩
          rw [mulR_succ _ _ _ hil, hbits, ← hd]
          exact hnx
      · have hil : i = R.length := by omega
        subst hil
        rw [List.take_length] at hn
        have s49 := g49.size
        refine ⟨⟨sets ++ [S], lft', ?_, hit'.grow g49, ?_, fun b hb e => ?_, g35.trans g49, by omega⟩, ?_⟩
        · refine List.Perm.trans ?_ hp
          rw [List.append_assoc]
          refine List.Perm.append_left _ ?_
          have := hperm2.map Prod.snd
          rw [List.map_cons] at this
          rw [hS]
          exact this.symm
        · rw [prodR_app, ← hRR]
          exact Own.mono hn (by omega)
        · have := (Own.lt hn hb).1
          omega
        · dsimp only
          rw [itLeft_eq (hit'.grow g49), itLeft_eq hit]
          have := hperm2.length_eq
          simp only [encM, List.length_map, List.length_cons] at this ⊢
          omega
theorem repairsN_c {w : World} {sv fv : Value} {s : List Int} {L : List Atm} (hs : SlI w sv s) (hl : SlA w fv L) :
    Calls Try.prog 8 #[sv, fv] w (Ret w (.tuple #[.int .i64 (if okR s L = true then ((allR (klS s) L).length : Int) else 0), .int .i64 (if okR s L = true then 0 else 2)])) := by
  refine f8_calls _ _ ?_
  refine (read_c hs hl).mono ?_
  rintro e w1 ⟨x, y, rfl, hx, hy, hxy, g1⟩
  refine ⟨_, _, rfl, fun w5 hw5 => RecV.init (cs := [x, y]) hw5 rfl (by simp [hx.2, hy.2]) fun w6 g6 s6 hB => ?_⟩
  have g06 := g1.trans g6
  refine condP_i (fun hn => ?_) fun hk => ?_
  · have hn : okR s L = false := by simpa using hn
    rw [hn]
    exact ⟨rfl, g06⟩
  have hk : okR s L = true := by simpa using hk
  obtain ⟨rfl, rfl⟩ := hxy hk
  rw [if_pos hk, if_pos hk]
  refine ⟨[_, _], rfl, hB.all, (repairs_c (hs.grow g06) (hl.gr g06) hk).mono ?_⟩
  rintro e w9 ⟨v, rfl, hv, g9⟩
  refine ⟨_, rfl, hv.ln ⟨?_, g06.trans g9⟩⟩
  rw [natI_len]
end Go.Proofs.Ytleiddajojgmmaa

/- Contracts: trailing zeros, the facts of a repair. The table of bits is laid (Tab). -/
namespace Go.Proofs.Ytleiddajojgmmaa
open Go Go.RowKit VC
set_option linter.unusedSimpArgs false
set_option linter.unusedVariables false

def tab64 : List Nat := [0, 1, 56, 2, 57, 49, 28, 3, 61, 58, 42, 50, 38, 29, 17, 4, 62, 47, 59, 36, 45, 43, 51, 22, 53, 39, 33, 30, 24, 18, 12, 5, 63, 55, 48, 27, 60, 41, 37, 16, 46, 35, 44, 21, 52, 32, 23, 11, 54, 26, 40, 15, 34, 20, 31, 10, 25, 14, 19, 9, 13, 8, 7, 6]
/-! ## Questions -/
end Go.Proofs.Ytleiddajojgmmaa

/- Contracts: the reference's valid books, blocks, repairs. No condition. -/
namespace Go.Proofs.Ytleiddajojgmmaa
open Go Go.RowKit VC
set_option linter.unusedSimpArgs false
set_option linter.unusedVariables false

theorem refSchema_c {w : World} {sv : Value} {s : List Int} (hs : SlI w sv s) : Calls Try.prog 24 #[sv] w (Ret w (.bool (okS s))) := by
  refine f24_calls _ ?_
  have hle := hs.len_le
  refine hs.ln ⟨fun t w' => ∃ k : Nat, t = k ∧ k ≤ s.length ∧ w' = w ∧ ∀ j (hj : j < s.length), j < k → 0 ≤ s[j] ∧ s[j] ≤ 3, fun t _ => s.length - t.toNat, ⟨0, rfl, by omega, rfl, fun j _ h => by omega⟩, ?_⟩
  rintro - t w8 ⟨k, rfl, hk, rfl, hok⟩
  have bad : ∀ (hkl : k < s.length), ¬ (0 ≤ s[k] ∧ s[k] ≤ 3) → okS s = false := fun hkl h => by
    rw [← Bool.not_eq_true]
    exact fun h2 => h ((okS_out h2).2 _ (List.getElem_mem hkl))
  refine condD (fun hlt => ?_) fun hge => ?_
  · have hkl : k < s.length := by omega
    refine hs.rd rfl hkl (condD (fun h => ⟨by rw [bad hkl (by omega)], Grow.refl _⟩) fun h0 => condD (fun h => ⟨by rw [bad hkl (by omega)], Grow.refl _⟩) fun h3 => ⟨by unfold inR; omega, ⟨k + 1, by omega, by omega, rfl, fun j hj hlt2 => ?_⟩, by dsimp only; omega⟩)
    by_cases e : j = k
    · subst e; omega
    · exact hok j hj (by omega)
  · refine hs.ln ⟨?_, Grow.refl _⟩
    have hall : (s.all fun x => decide (0 ≤ x) && decide (x ≤ 3)) = true := List.all_eq_true.2 fun x hx => by
      obtain ⟨j, hj, rfl⟩ := List.getElem_of_mem hx
      have := hok j hj (by omega)
      simp [this]
    have e : decide ((s.length : Int) = 6) = decide (s.length = 6) := by
      rw [decide_eq_decide]; omega
    rw [okS, hall, Bool.and_true, e]
theorem okP_snoc (L : List Atm) (f : Atm) : okP (L ++ [f]) = true ↔ okP L = true ∧ ∀ g ∈ L, g.1 = f.1 → g.2.length = f.2.length ∧ g.2 ≠ f.2 := by
  rw [okP_iff, okP_iff, List.pairwise_append]
  simp [List.pairwise_singleton]
theorem okP_bad {L : List Atm} {j k : Nat} (hj : j < k) (hk : k < L.length) (e : L[k].1 = L[j].1) (h : L[k].2.length ≠ L[j].2.length ∨ L[k].2 = L[j].2) : okP L = false := by
  rw [← Bool.not_eq_true, okP_iff]
  intro hp
  have := List.pairwise_iff_getElem.1 hp j k (by omega) hk hj e.symm
  rcases h with h | h
  · exact h this.1.symm
  · exact this.2 h.symm
theorem okR_ref (s : List Int) (L : List Atm) (hP : okP L = true) : (okS s && okFs L && decide (L.length ≤ 12)) = okR s L := by
  unfold okR okFs
  rw [hP, Bool.and_true, Bool.eq_iff_iff]
  simp only [Bool.and_eq_true, decide_eq_true_eq]
  constructor
  · rintro ⟨⟨h1, h2, h3⟩, h4⟩
    exact ⟨⟨h1, h4⟩, h3⟩
  · rintro ⟨⟨h1, h4⟩, h3⟩
    exact ⟨⟨h1, by omega, h3⟩, h4⟩
theorem refValidR_c {w : World} {sv fv : Value} {s : List Int} {L : List Atm} (hs : SlI w sv s) (hl : SlA w fv L) : Calls Try.prog 6 #[sv, fv] w (Ret w (.bool (okR s L))) := by
  refine f6_calls _ _ ?_
  have hle := SlX.len_le hl
  refine SlX.ln hl ⟨fun t w' => ∃ k : Nat, t = k ∧ k ≤ L.length ∧ okP (L.take k) = true ∧ Grow w w', fun t _ => L.length - t.toNat, ⟨0, rfl, by omega, rfl, Grow.refl _⟩, ?_⟩
  rintro - t w8 ⟨k, rfl, hk, hok, g8⟩
  refine condD (fun hlt => ?_) fun hge => ?_
  · have hkl : k < L.length := by omega
    refine locR hl g8 rfl hkl rfl fun w14 u g14 s14 hu hc => ?_
    have g014 := g8.trans g14
    obtain ⟨ua, un, uc, ue, ul, uh, um, ub, hv'⟩ := SlX.upto hl (ik := .i64) (K := fun x => SlA w x (L.take k)) rfl (Nat.le_of_lt hkl) fun v' hv' => hv'
    have hlk : (L.take k).length = k := by rw [List.length_take]; omega
    refine ⟨ua, un, uc, ue, ul, uh, um, ub, SlX.ln hv' ?_⟩
    rw [hlk]
    refine ⟨fun t w' => ∃ j : Nat, t = j ∧ j ≤ k ∧ (∀ i (hi : i < L.length), i < j → L[i].1 = L[k].1 → L[i].2.length = L[k].2.length ∧ L[i].2 ≠ L[k].2) ∧ Grow w14 w', fun t _ => k - t.toNat, ⟨0, rfl, by omega, fun i _ h => by omega, Grow.refl _⟩, ?_⟩
    rintro - t w29 ⟨j, rfl, hj, hin, g29⟩
    refine condD (fun hlt2 => ?_) fun hge2 => ?_
    · have hjk : j < k := by omega
      have hjl : j < L.length := by omega
      refine locR hv' (g014.trans g29) rfl (by rw [hlk]; exact hjk) rfl fun w35 u2 g35 s35 hu2 hc2 => ?_
      rw [List.getElem_take] at hu2 hc2
      have hc35 := hc.grow (g29.trans g35)
      have g035 := (g014.trans g29).trans g35
      have next : ∀ {w'}, (L[j].1 = L[k].1 → L[j].2.length = L[k].2.length ∧ L[j].2 ≠ L[k].2) → Grow w35 w' → inR ((j : Int) + 1) ∧ ((∃ j' : Nat, (j : Int) + 1 = j' ∧ j' ≤ k ∧ (∀ i (hi : i < L.length), i < j' → L[i].1 = L[k].1 → L[i].2.length = L[k].2.length ∧ L[i].2 ≠ L[k].2) ∧ Grow w14 w') ∧ k - Int.toNat ((j : Int) + 1) < k - Int.toNat (j : Int)) := fun {w'} h g => ⟨by unfold inR; omega, ⟨j + 1, by omega, by omega, fun i hi hlt3 => by
        by_cases e : i = j
        · subst e; exact h
        · exact hin i hi (by omega), (g29.trans g35).trans g⟩, by omega⟩
      refine ⟨_, hc35.cell (j := 0) rfl, _, hc2.cell (j := 0) rfl, condD (fun he => ?_) fun hne => next (fun e => absurd e.symm hne) (Grow.refl _)⟩
      refine ⟨_, hc35.cell (j := 1) rfl, hu.ln ⟨_, hc2.cell (j := 1) rfl, hu2.ln (condP_i (fun hl2 => ⟨?_, g035⟩) fun hl2 => ?_)⟩⟩
      · have : ¬ L[k].2.length = L[j].2.length := by simp at hl2; omega
        rw [okR, okP_bad hjk hkl he (.inl this), Bool.and_false]
      · have hll : L[k].2.length = L[j].2.length := by simp at hl2; omega
        refine ⟨_, hc35.cell (j := 1) rfl, _, hc2.cell (j := 1) rfl, (refEqual_c (hu.grow g035) (hu2.grow g035)).mono ?_⟩
        rintro e w49 ⟨rfl, rfl⟩
        refine ⟨_, rfl, condD (fun he2 => ⟨?_, g035⟩) fun hne2 => next (fun _ => ⟨hll.symm, fun h => hne2 h.symm⟩) (Grow.refl _)⟩
        rw [okR, okP_bad hjk hkl he (.inr he2), Bool.and_false]
    · have hjk : j = k := by omega
      subst hjk
      refine ⟨by unfold inR; omega, ⟨j + 1, by omega, by omega, ?_, g014.trans g29⟩, by dsimp only; omega⟩
      rw [List.take_succ_eq_append_getElem hkl, okP_snoc]
      refine ⟨hok, fun g hg e => ?_⟩
      obtain ⟨i, hi, rfl⟩ := List.getElem_of_mem hg
      rw [List.getElem_take] at e ⊢
      rw [hlk] at hi
      exact hin i (by omega) hi e
  · have hkl : k = L.length := by omega
    subst hkl
    rw [List.take_length] at hok
    refine (refSchema_c (hs.grow g8)).mono ?_
    rintro e w52 ⟨rfl, g52⟩
    have e0 := okR_ref s L hok
    refine ⟨_, rfl, condP_i (fun h1 => ?_) fun h1 => ⟨?_, g8.trans g52⟩⟩
    · refine (refFacts_c (hl.gr (g8.trans g52))).mono ?_
      rintro e w55 ⟨rfl, g55⟩
      refine ⟨_, rfl, condP_i (fun h2 => SlX.ln hl ⟨?_, (g8.trans g52).trans g55⟩) fun h2 => ⟨?_, (g8.trans g52).trans g55⟩⟩
      · rw [h1, h2, Bool.true_and, Bool.true_and] at e0
        rw [← e0, decide_eq_decide.2 (show ((L.length : Int) ≤ 12) ↔ L.length ≤ 12 by omega)]
      · rw [h2, Bool.and_false, Bool.false_and] at e0
        rw [← e0]
    · rw [h1, Bool.false_and, Bool.false_and] at e0
      rw [← e0]
end Go.Proofs.Ytleiddajojgmmaa

/- Contracts: the reference's questions. No condition. -/
namespace Go.Proofs.Ytleiddajojgmmaa
open Go Go.RowKit VC
set_option linter.unusedSimpArgs false
set_option linter.unusedVariables false

section
variable {w : World} {sv fv hv bv : Value} {s h : List Int} {b L : List Atm}
/-- The least and the greatest of a list, if it is not empty. -/
def LowHigh (l : List Int) (lo hi : Int) : Prop := lo ∈ l ∧ hi ∈ l ∧ ∀ x ∈ l, lo ≤ x ∧ x ≤ hi
theorem LowHigh.uniq {l : List Int} {lo hi lo' hi' : Int} (h : LowHigh l lo hi) (h' : LowHigh l lo' hi') : lo = lo' ∧ hi = hi' := by
  have a := h.2.2 _ h'.1
  have b := h.2.2 _ h'.2.1
  have c := h'.2.2 _ h.1
  have d := h'.2.2 _ h.2.1
  exact ⟨by omega, by omega⟩
end
end Go.Proofs.Ytleiddajojgmmaa

/- Contracts: Sure, by the reference; equal rows. No condition. -/
namespace Go.Proofs.Ytleiddajojgmmaa
open Go Go.RowKit VC
set_option linter.unusedSimpArgs false
set_option linter.unusedVariables false

theorem elx_oldI {T : Nat → Prop} {w w0 : World} {x : List Int} {u out : Value} (hu : SlI w0 u x) (g : Grow w0 w) (hT : ∀ b, T b → w0.heap.size ≤ b) (hout : ∀ b, out.ownBlock = some b → w0.heap.size ≤ b) : ElX T 1 repI out w ([u], x) := by
  refine ⟨rfl, ?_, fun w2 hf => ⟨u, rfl, hu.grow (g.fr hf fun i hi e => ?_)⟩⟩
  · intro y hy
    simp at hy
    subst hy
    exact hu.one.2
  · rcases e with e | e
    · have := hT i e; omega
    · have := hout i e.symm; omega
theorem rdR {w0 w : World} {v : Value} {L : List (List Int)} (h : SlL w0 v L) (g : Grow w0 w) {i : Nat} {j : Int} (hj : j = (i : Int)) (hi : i < L.length) {K : Value → Prop} (hk : ∀ u, SlI w0 u L[i] → K u) :
    ∃ (a : Addr) (m c : Nat), v = .slice (some a) m c ∧ ((0 : Int) ≤ j ∧ j < (m : Int)) ∧ ∃ u : Value, w.cell? (a.add (Int.toNat j * 1)) = some u ∧ K u := by
  obtain ⟨a, m, c, e, hb, cs, hl, hcs, u, rfl, hu⟩ := (pinR h g).rd hj hi (K := fun cs => ∃ u, cs = [u] ∧ SlI w0 u L[i]) fun cs _ hr => hr
  have := hcs 0 u rfl
  rw [add_add, Nat.add_zero] at this
  exact ⟨a, m, c, e, hb, u, this, hk u hu⟩
/-! ## Equal rows -/
section
variable {w : World} {sv fv hv bv : Value} {s h : List Int} {b L : List Atm}
end
end Go.Proofs.Ytleiddajojgmmaa
