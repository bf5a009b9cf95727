/- Contracts: closures of sets, by the program: lists of dependencies, copied, one left out. No condition. -/
import Derived.Test.YtmjpnfapjcfejaaSd
import Derived.Test.YtmjpnfapjcfejaaSb
namespace Go.Proofs.Ytmjpnfapjcfejaa
open Go Go.RowKit VC
set_option linter.unusedSimpArgs false
set_option linter.unusedVariables false

/-- The array behind an own slice is written behind the slice's end. -/
theorem VC.Own.wipe {P : Program} {w : World} {B : Nat} {e : TypeId} {sz g n cap o : Nat} {cs vs : List Value} (h : Own w B e sz (.slice (some ⟨g, 0, none⟩) n cap) n cs) (ho : n * sz ≤ o) (ho2 : o + vs.length ≤ cap * sz) (h1 : ∀ u ∈ vs, u.oneCell' = true) :
    ∃ w', (storeCells ⟨g, o, none⟩ vs).run P w = .ok () w' ∧ Fr (fun k => k = g) w w' ∧ Own w' B e sz (.slice (some ⟨g, 0, none⟩) n cap) n cs := by
  rcases h.2 with ⟨h2, _⟩ | ⟨g', cap', cur, he, hb, hgg, hnc, hcm, hcs, htake⟩
  · cases h2
  · simp only [Value.slice.injEq, Option.some.injEq, Addr.mk.injEq, and_true, true_and] at he
    obtain ⟨rfl, rfl⟩ := he
    have hr := run_storeCells_at P g o e vs 0 cur w hgg (by omega) h1
    simp only [Nat.add_zero] at hr
    have hl : (cur.toList.take o ++ vs ++ cur.toList.drop (o + vs.length)).length = cur.size := by simp; omega
    refine ⟨_, hr, ⟨rfl, rfl, rfl, by simp [World.setRow], fun k _ hk => setRow_other w g k _ hk⟩, h.1, .inr ⟨g, cap, _, rfl, hb, setRow_heap w g cur _ e _ hgg, hnc, hcm, by simpa using hl.trans hcs, ?_⟩⟩
    rw [List.toList_toArray, List.append_assoc, List.take_append_of_le_length (by simp; omega), List.take_take, Nat.min_eq_left ho, htake]
/-! ## Lists of dependencies -/
theorem el_dep : ElT Try.prog 73 75 2 16 (.agg #[.int .i64 0, .int .i64 0]) := ⟨by kernel_rfl, ⟨Try.t75, by kernel_rfl, by kernel_rfl, by kernel_rfl, by kernel_rfl⟩, rfl⟩
def encD (l : List (Nat × Nat)) : List (Int × Int) := l.map fun d => ((d.1 : Int), (d.2 : Int))
theorem encD_len (l : List (Nat × Nat)) : (encD l).length = l.length := by simp [encD]
theorem encD_get {l : List (Nat × Nat)} {i : Nat} (h : i < l.length) : (encD l)[i]'(by rw [encD_len]; exact h) = ((l[i].1 : Int), (l[i].2 : Int)) := by simp [encD]
abbrev SlD (w : World) (v : Value) (l : List (Nat × Nat)) : Prop := SlR spF w v (encD l)
abbrev OwnD (w : World) (B : Nat) (v : Value) (l : List (Nat × Nat)) : Prop := Own w B 75 2 v l.length ((encD l).flatMap spF)
theorem OwnD.sl {w : World} {B : Nat} {v : Value} {l : List (Nat × Nat)} (h : OwnD w B v l) : SlD w v l := by
  have := Own.slC h
  unfold SlD SlR
  rw [encD_len]
  exact this
/-- A dependency is read into a variable of its own. -/
theorem locD {P : Program} {w0 w : World} {v : Value} {l : List (Nat × Nat)} (h : SlD w0 v l) (g : Grow w0 w) {i : Nat} {j : Int} (hj : j = (i : Int)) (hi : i < l.length) {zs : Array Value} (hz : zs.size = 2) {t : TypeId} {K : World → Prop}
    (hk : ∀ w2, Grow w w2 → w.heap.size < w2.heap.size → RecV w2 w.heap.size [.int .i64 (l[i].1 : Int), .int .i64 (l[i].2 : Int)] → K w2) :
    ∃ (a : Addr) (m c : Nat), v = .slice (some a) m c ∧ ((0 : Int) ≤ j ∧ j < (m : Int)) ∧ ∃ cs : List Value, cs.length = 2 ∧ (∀ t u, cs[t]? = some u → w.cell? (Addr.add (a.add (Int.toNat j * 2)) t) = some u) ∧
      ∀ w1, w1 = w.alloc (.cells zs t) → ∃ cs' : Array Value, (Value.agg cs.toArray) = Value.agg cs' ∧ cs'.size = 2 ∧ ∃ w2 : World, (storeCells ⟨w.heap.size, 0, none⟩ cs'.toList).run P w1 = .ok () w2 ∧ K w2 := by
  refine SlR.rd (SlR.grow h g) spF_len hj (by rw [encD_len]; exact hi) ?_
  intro w1 hw1
  rw [encD_get hi]
  have := RecV.init (P := P) (cs := spF ((l[i].1 : Int), (l[i].2 : Int))) hw1 (by rw [hz]; rfl) (spF_one _) (K := K) fun w2 hg hs hc => hk w2 hg hs hc
  rw [hz] at this
  exact this
/-! ## Sets of attributes -/
def smallD (l : List (Nat × Nat)) : Prop := ∀ d ∈ l, d.1 < 256 ∧ d.2 < 256
theorem sets1_c {w : World} {x : Int} {p : Addr} (hc : w.cell? p = some (.int .i64 8)) : Calls Try.prog 76 #[.int .i64 x, .pointer (some p)] w (Ret w (.bool (decide (x < 0) || decide (256 ≤ x)))) := by
  refine f76_calls _ _ (condD (fun h => ⟨by rw [decide_eq_true h]; rfl, Grow.refl _⟩) fun h => ⟨8, hc, by omega, ?_, Grow.refl _⟩)
  have e : iShl .i64 1 8 = 256 := by decide +kernel
  rw [e, decide_eq_false h, Bool.false_or]
theorem sets_c {w : World} {v : Value} {xs : List Int} (hs : SlI w v xs) (hx : ∀ x ∈ xs, 0 ≤ x ∧ x < 256) : Calls Try.prog 61 #[.int .i64 8, v] w (Ret w (.bool true)) := by
  refine f61_calls _ _ fun w1 hw1 => ?_
  have g1 := alloc_grow hw1
  refine (containsFunc_c (p := fun x => decide (x < 0) || decide (256 ≤ x)) (hs.grow g1) ⟨76, #[], _, rfl, rfl, fun x _ w' g => ?_⟩).mono ?_
  · rw [app1]
    exact sets1_c (g.cell (alloc_cell0 hw1))
  · rintro e w2 ⟨rfl, g2⟩
    have : xs.any (fun x => decide (x < 0) || decide (256 ≤ x)) = false := by
      rw [List.any_eq_false]
      intro x h
      have := hx x h
      simp
      omega
    rw [this]
    exact ⟨_, rfl, rfl, g1.trans g2⟩
theorem validD1_c {w : World} {d : Nat × Nat} {p : Addr} (hc : w.cell? p = some (.int .i64 8)) (h1 : d.1 < 256) (h2 : d.2 < 256) : Calls Try.prog 75 #[.agg (spF ((d.1 : Int), (d.2 : Int))).toArray, .pointer (some p)] w (Ret w (.bool false)) := by
  refine f75_calls _ _ ⟨_, rfl, fun w1 hw1 => ?_⟩
  have g1 := alloc_grow hw1
  refine ⟨_, g1.cell hc, _, boxc hw1 0 _ rfl, _, boxc hw1 1 _ rfl, fun w6 hw6 => ?_⟩
  have g6 := alloc_grow hw6
  have hs := slI_lit (xs := [(d.1 : Int), (d.2 : Int)]) hw6 rfl (by simp)
  refine (sets_c hs (by
    intro x hx
    simp at hx
    rcases hx with rfl | rfl <;> omega)).mono ?_
  rintro e w7 ⟨rfl, g7⟩
  exact ⟨_, rfl, rfl, (g1.trans g6).trans g7⟩
theorem indexD_no {w : World} {v : Value} {l : List (Nat × Nat)} {g : FuncId} {fst cap : Array Value} (hs : SlD w v l) (hg : callOK g = true) (hf : ∀ d ∈ l, ∀ w', Grow w w' → Calls Try.prog g (fst ++ #[.agg (spF ((d.1 : Int), (d.2 : Int))).toArray] ++ cap) w' (Ret w' (.bool false))) :
    Calls Try.prog 94 #[v, .func (.func g) fst cap] w (Ret w (.int .i64 (-1))) := by
  refine f94_calls _ _ ?_
  have hle := SlR.len_le hs
  rw [encD_len] at hle
  refine SlR.ln hs ?_
  rw [encD_len]
  refine ⟨fun t w' => ∃ k : Nat, t = k ∧ k ≤ l.length ∧ Grow w w', fun t _ => l.length - t.toNat, ⟨0, rfl, by omega, Grow.refl w⟩, ?_⟩
  rintro - t w1 ⟨k, rfl, hk, hw⟩
  refine condD (fun hlt => ?_) (fun hge => ⟨rfl, hw⟩)
  have hkl : k < l.length := by omega
  refine SlR.rd (SlR.grow hs hw) spF_len rfl (by rw [encD_len]; exact hkl) ?_
  rw [encD_get hkl]
  refine ⟨g, fst, cap, rfl, hg, (hf _ (List.getElem_mem hkl) w1 hw).mono ?_⟩
  rintro e w2 ⟨rfl, g2⟩
  exact ⟨_, rfl, cF rfl ⟨by unfold inR; omega, ⟨k + 1, by omega, by omega, hw.trans g2⟩, by first | omega | (dsimp only; omega)⟩⟩
theorem validD_c {w : World} {v : Value} {l : List (Nat × Nat)} (hs : SlD w v l) (h12 : l.length ≤ 12) (hsm : smallD l) : Calls Try.prog 60 #[.int .i64 8, v] w (Ret w (.bool true)) := by
  refine f60_calls _ _ fun w1 hw1 => ?_
  have g1 := alloc_grow hw1
  have c0 : w1.cell? ⟨w.heap.size, 0, none⟩ = some (.int .i64 8) := alloc_cell0 hw1
  have hs1 := SlR.grow hs g1
  refine ⟨8, c0, cF rfl ⟨8, c0, cF rfl (SlR.ln hs1 (cF (decide_eq_false (by rw [encD_len]; omega)) ?_))⟩⟩
  refine f74_calls _ _ ((indexD_no hs1 rfl fun d hd w' g => ?_).mono ?_)
  · rw [app1]
    exact validD1_c (g.cell c0) (hsm d hd).1 (hsm d hd).2
  · rintro e w3 ⟨rfl, g3⟩
    exact ⟨_, rfl, _, rfl, rfl, g1.trans g3⟩
/-! ## Closures -/
theorem closure1_c {w : World} {v : Value} {l : List (Nat × Nat)} {a : Nat} {p : Addr} (hc : w.cell? p = some v) (hs : SlD w v l) (hsm : smallD l) (ha : a < 256) : Calls Try.prog 77 #[.int .i64 (a : Int), .pointer (some p)] w (Ret w (.int .i64 (clF l a : Nat))) := by
  refine f77_calls _ _ ?_
  have hcl := clF_is l a
  have hle := SlR.len_le hs
  rw [encD_len] at hle
  refine ⟨fun set again w' => ∃ c : Nat, set = c ∧ c < 256 ∧ bs a c ∧ bs c (clF l a) ∧ (again = false → ∀ d ∈ l, bs d.1 c → bs d.2 c) ∧ Grow w w', fun set again _ => (if again then 1 else 0) + (256 - set.toNat), ⟨a, rfl, ha, bs_refl _, hcl.sub, (fun h => by cases h), Grow.refl _⟩, ?_⟩
  rintro - set again w6 ⟨c, rfl, hc256, hac, hca, hdone, g6⟩
  refine condP_i (fun hag => ⟨v, g6.cell hc, ?_⟩) fun hag => ⟨?_, g6⟩
  · subst hag
    refine SlR.ln (SlR.grow hs g6) ?_
    rw [encD_len]
    refine ⟨fun set again t w' => ∃ (k c' : Nat), t = k ∧ k ≤ l.length ∧ set = c' ∧ c' < 256 ∧ bs c c' ∧ bs c' (clF l a) ∧ (again = true → c < c') ∧ (again = false → c' = c ∧ ∀ d ∈ l.take k, bs d.1 c → bs d.2 c) ∧ Grow w w', fun _ _ t _ => l.length - t.toNat, ⟨0, c, rfl, by omega, rfl, hc256, bs_refl _, hca, (fun h => by cases h), (fun _ => ⟨rfl, fun d hd => by cases hd⟩), g6⟩, ?_⟩
    rintro - set again t w17 ⟨k, c', rfl, hk, rfl, hc', hcc, hcl', hgt, hsame, g17⟩
    refine condD (fun hlt => ?_) fun hge => ?_
    · have hkl : k < l.length := by omega
      have hd := hsm _ (List.getElem_mem hkl)
      refine locD hs g17 rfl hkl rfl fun w23 g23 s23 hr => ⟨_, hr.cell (j := 0) rfl, ?_⟩
      have g023 := g17.trans g23
      have stay : ¬ (bs l[k].1 c' ∧ ¬ bs l[k].2 c') → inR ((k : Int) + 1) ∧ ((∃ (k' c2 : Nat), (k : Int) + 1 = k' ∧ k' ≤ l.length ∧ (c' : Int) = c2 ∧ c2 < 256 ∧ bs c c2 ∧ bs c2 (clF l a) ∧ (again = true → c < c2) ∧ (again = false → c2 = c ∧ ∀ d ∈ l.take k', bs d.1 c → bs d.2 c) ∧ Grow w w23) ∧ l.length - Int.toNat ((k : Int) + 1) < l.length - Int.toNat (k : Int)) := fun hn => by
        refine ⟨by unfold inR; omega, ⟨k + 1, c', by omega, by omega, rfl, hc', hcc, hcl', hgt, fun hf => ?_, g023⟩, by first | omega | (dsimp only; omega)⟩
        obtain ⟨e, h2⟩ := hsame hf
        refine ⟨e, fun d hd => ?_⟩
        rw [List.take_succ_eq_append_getElem hkl] at hd
        rcases List.mem_append.1 hd with hd | hd
        · exact h2 d hd
        · have : d = l[k] := by simpa using hd
          subst this
          rw [e] at hn
          intro h1
          exact Classical.byContradiction fun h3 => hn ⟨h1, h3⟩
      refine condD (fun h0 => ⟨_, hr.cell (j := 1) rfl, condP_i (fun h1 => ⟨_, hr.cell (j := 1) rfl, ?_⟩) fun h1 => stay ?_⟩) fun h0 => stay ?_
      · have h0 := sub_bits.1 ((andNot_zero hd.1 hc').1 h0)
        have h1 : ¬ bs l[k].2 c' := fun h => by
          have := (andNot_zero hd.2 hc').2 (sub_bits.2 h)
          rw [decide_eq_true this] at h1
          cases h1
        have hor : c' ||| l[k].2 < 256 := Nat.or_lt_two_pow (n := 8) hc' hd.2
        have hlt2 : c' < c' ||| l[k].2 := by
          have h2 := Nat.left_le_or (n := c') (m := l[k].2)
          rcases Nat.lt_or_ge c' (c' ||| l[k].2) with h3 | h3
          · exact h3
          · exfalso
            have e : c' ||| l[k].2 = c' := by omega
            exact h1 (e ▸ bs_right c' l[k].2)
        have hle2 : c ≤ c' := by
          have e : c ||| c' = c' := bs_antisymm (bs_or.2 ⟨hcc, bs_refl _⟩) (bs_right _ _)
          rw [← e]
          exact Nat.left_le_or
        refine ⟨by unfold inR; omega, ⟨k + 1, c' ||| l[k].2, by omega, by omega, ?_, hor, hcc.trans (bs_left _ _), bs_or.2 ⟨hcl', ?_⟩, fun _ => by omega, (fun h => by cases h), g023⟩, by first | omega | (dsimp only; omega)⟩
        · rw [iOr_nat (by omega) (by omega)]
        · exact hcl.cl _ (List.getElem_mem hkl) (fun x hx => hcl' x (h0 x hx))
      · have h1 : iAndNot .i64 (l[k].2 : Int) (c' : Int) = 0 := by simpa using h1
        exact fun h => h.2 (sub_bits.1 ((andNot_zero hd.2 hc').1 h1))
      · exact fun h => h0 ((andNot_zero hd.1 hc').2 (sub_bits.2 h.1))
    · have hkl : k = l.length := by omega
      subst hkl
      refine ⟨⟨c', rfl, hc', hac.trans hcc, hcl', fun hf d hd => ?_, g17⟩, ?_⟩
      · obtain ⟨e, h2⟩ := hsame hf
        rw [List.take_length] at h2
        rw [e]
        exact h2 d hd
      · dsimp only
        rw [Int.toNat_natCast, Int.toNat_natCast]
        cases again with
        | true =>
          have := hgt rfl
          simp only [if_true]
          omega
        | false =>
          obtain ⟨e, -⟩ := hsame rfl
          subst e
          simp
  · subst hag
    have : c = clF l a := bs_antisymm hca (hcl.min c hac (hdone rfl))
    rw [this]
theorem ClosureD_c {w : World} {v : Value} {l : List (Nat × Nat)} {a : Nat} (hs : SlD w v l) (h12 : l.length ≤ 12) (hsm : smallD l) (ha : a < 256) : Calls Try.prog 44 #[.int .i64 8, v, .int .i64 (a : Int)] w (Ret w (.tuple #[.int .i64 (clF l a : Nat), .int .i64 0])) := by
  refine f44_calls _ _ _ ((validD_c hs h12 hsm).mono ?_)
  rintro e w1 ⟨rfl, g1⟩
  refine ⟨_, rfl, cF rfl fun w4 hw4 => ?_⟩
  have g4 := alloc_grow hw4
  have hl := slI_lit (xs := [(a : Int)]) hw4 rfl (by simp)
  refine (sets_c hl (by
    intro x hx
    simp at hx
    omega)).mono ?_
  rintro e w5 ⟨rfl, g5⟩
  have g05 := (g1.trans g4).trans g5
  refine ⟨_, rfl, cF rfl (f62_calls _ ⟨SlR.one hs, fun w6 hw6 => ⟨_, rfl, 77, #[], #[.pointer (some ⟨w5.heap.size, 0, none⟩)], rfl, rfl, ?_⟩⟩)⟩
  have g6 := alloc_grow hw6
  rw [app1]
  refine (closure1_c (alloc_cell0 hw6) (SlR.grow hs (g05.trans g6)) hsm ha).mono ?_
  rintro e w11 ⟨rfl, g11⟩
  exact ⟨_, rfl, rfl, (g05.trans g6).trans g11⟩
/-! ## A copy, and one left out -/
theorem cloneD_c {w : World} {v : Value} {l : List (Nat × Nat)} (hs : SlD w v l) (hlen : l.length ≤ 1000000) : Calls Try.prog 43 #[v] w fun e w' => ∃ v', e = .returned v' ∧ OwnD w' w.heap.size v' l ∧ Grow w w' := by
  refine f43_calls _ ?_
  obtain ⟨a, c, rfl, h1, h2, h3, h4⟩ := hs.ex
  refine ⟨a.isNone, nilEq (e := 75) (by kernel_rfl), condP_i (fun ha => ?_) (fun ha => ?_)⟩
  · have : a = none := by simpa using ha
    have hc := h3 this
    rw [encD_len] at h1
    have : l = [] := List.length_eq_zero_iff.1 (by omega)
    subst this
    exact ⟨_, rfl, Own.nil _ _ _ _, Grow.refl w⟩
  · refine bs0 el_dep w fun w1 hw1 => ?_
    have g1 := alloc_grow hw1
    have hl := Own.lit (B := w.heap.size) (n := 0) (sz := 2) hw1 (Nat.le_refl _) (by omega) (by simp)
    have hx : SlC w1 (.slice a (encD l).length c) l.length ((encD l).flatMap spF) := by
      have := SlC.grow hs g1
      rwa [encD_len] at this ⊢
    refine papp el_dep (by omega) hl hx (by rw [flat_len spF_len, encD_len]) (fun u hu => ?_) (by rw [alloc_size hw1]; omega) (by omega) (by omega) ?_
    · obtain ⟨p, _, hu⟩ := List.mem_flatMap.1 hu
      exact spF_one p u hu
    · intro v' w' ho hf hn
      refine ⟨v', rfl, by simpa [OwnD] using ho, g1.fr hf fun i hi e => ?_⟩
      simp [Value.ownBlock] at e
      omega
theorem deleteD_c {w : World} {B : Nat} {v : Value} {l : List (Nat × Nat)} {i : Nat} (ho : OwnD w B v l) (hi : i < l.length) (hlen : l.length ≤ 1000000) : Calls Try.prog 42 #[v, .int .i64 (i : Int), .int .i64 ((i : Int) + 1)] w fun e w' => ∃ v', e = .returned v' ∧ OwnD w' B v' (l.eraseIdx i) ∧ FrO v w w' := by
  refine f42_calls _ _ _ ?_
  have hv : ∃ g cap, v = .slice (some ⟨g, 0, none⟩) l.length cap ∧ l.length ≤ cap := by
    rcases ho.2 with ⟨_, h0⟩ | ⟨g, cap, cur, rfl, hb, hgg, hnc, _⟩
    · omega
    · exact ⟨g, cap, rfl, hnc⟩
  obtain ⟨g, cap, rfl, hcap⟩ := hv
  have z1 : (i : Int) + 1 = ((i + 1 : Nat) : Int) := by omega
  refine ⟨_, _, _, rfl, _, _, _, rfl, i, i + 1, l.length, ⟨rfl, z1 ▸ rfl, rfl, by simp, by omega, by omega, by first | omega | (dsimp only; omega)⟩, cF (decide_eq_false (by omega)) ⟨_, _, _, rfl, fun d => ⟨_, _, _, rfl, 0, i, cap, ⟨rfl, rfl, rfl, by simp, by omega, by omega, by first | omega | (dsimp only; omega)⟩, _, _, _, rfl, i + 1, l.length, cap, ⟨z1 ▸ rfl, rfl, rfl, by simp, by omega, by omega, by first | omega | (dsimp only; omega)⟩, ?_⟩⟩⟩
  have gd : Grow w (dr w d.1) := (Grow.refl w).dr d.1
  have hod := Own.grow ho gd
  have hne : ¬ cap = 0 := by omega
  rw [if_neg hne]
  have hcut := Own.cut hod (k := i) (by omega)
  rw [← flat_take (fun x _ => spF_len x)] at hcut
  have elen : (encD l).length = l.length := encD_len l
  have e0 : (Option.map (fun x => Addr.add x (0 * 2)) (some (⟨g, 0, none⟩ : Addr))) = some ⟨g, 0, none⟩ := by simp [Addr.add0]
  rw [e0]
  have ed : (l.eraseIdx i) = l.take i ++ l.drop (i + 1) := List.eraseIdx_eq_take_drop_succ l i
  have eD : encD (l.eraseIdx i) = (encD l).take i ++ (encD l).drop (i + 1) := by
    rw [ed]; simp [encD]
  have el : (l.eraseIdx i).length = l.length - 1 := by rw [List.length_eraseIdx, if_pos hi]
  have hcells := World.ownsRow.cells (g := g) hod rfl
  have hnews : ∀ (x : Addr), (cap = i + 1 ∨ x = Addr.add ⟨g, 0, none⟩ ((i + 1) * 2)) → ∀ j u, (((encD l).drop (i + 1)).flatMap spF)[j]? = some u → (dr w d.1).cell? (x.add j) = some u := fun x hx j u hj => by
    rw [flat_drop (fun x _ => spF_len x), List.getElem?_drop] at hj
    rcases hx with hx | rfl
    · have := (List.getElem?_eq_some_iff.1 hj).1
      rw [flat_len spF_len, elen] at this
      omega
    · rw [add_add]
      exact hcells _ _ hj
  obtain ⟨inf, hi2, hz, hsize, hby⟩ := (el_dep).info
  obtain ⟨x, ex, hx⟩ : ∃ x : Addr, (if cap = i + 1 then some (⟨g, 0, none⟩ : Addr) else (some (⟨g, 0, none⟩ : Addr)).map (·.add ((i + 1) * 2))) = some x ∧ (cap = i + 1 ∨ x = Addr.add ⟨g, 0, none⟩ ((i + 1) * 2)) := by
    by_cases hc : cap = i + 1
    · exact ⟨_, if_pos hc, .inl hc⟩
    · exact ⟨_, by rw [if_neg hc]; rfl, .inr rfl⟩
  rw [ex]
  obtain ⟨w27, hrun, hown, hgr⟩ := run_append_fits (P := Try.prog) (dr w d.1) B 73 73 75 inf 2 el_dep.und hi2 hsize g i cap _ hcut x (l.length - (i + 1)) (cap - (i + 1)) (((encD l).drop (i + 1)).flatMap spF) (by rw [flat_len spF_len, List.length_drop, elen]) (hnews x hx) (fun u hu => by
    obtain ⟨p, _, hu⟩ := List.mem_flatMap.1 hu
    exact spF_one p u hu) (by omega)
  have hn1 : i + (l.length - (i + 1)) = l.length - 1 := by omega
  rw [hn1] at hrun hown
  rw [← List.flatMap_append, ← eD] at hown
  refine ⟨_, w27, hrun, _, _, _, rfl, _, _, _, rfl, l.length - 1, l.length, cap, ⟨by rfl, rfl, rfl, by simp, by omega, by omega, by first | omega | (dsimp only; omega)⟩, ?_⟩
  have hn2 : ¬ cap = l.length - 1 := by omega
  rw [if_neg hn2]
  have hzl : (Builtin.zeroCells (Value.agg #[.int .i64 0, .int .i64 0]).cells (l.length - (l.length - 1))).toList.length = 2 := by
    rw [Array.length_toList, size_zeroCells]
    have : l.length - (l.length - 1) = 1 := by omega
    rw [this]
    rfl
  obtain ⟨w37, hr37, hf37, ho37⟩ := VC.Own.wipe (P := Try.prog) (o := (l.length - 1) * 2) (vs := (Builtin.zeroCells (Value.agg #[.int .i64 0, .int .i64 0]).cells (l.length - (l.length - 1))).toList) hown (Nat.le_refl _) (by rw [hzl]; omega) (zeroCells_mem (by decide) (by
    intro u hu
    simp [Value.cells] at hu
    rcases hu with rfl | rfl <;> rfl))
  refine ⟨w37, ?_, _, rfl, ?_, ?_⟩
  · refine clear_run el_dep (by omega) ?_
    show (storeCells (Addr.add ⟨g, 0, none⟩ ((l.length - 1) * 2)) _).run _ _ = _
    rw [Addr.add0]; exact hr37
  · unfold OwnD
    rw [el]
    exact ho37
  · exact ((Fr.of_grow gd).trans (Fr.of_grown hgr)).trans (hf37.mono fun b _ e => by rw [e])
end Go.Proofs.Ytmjpnfapjcfejaa
