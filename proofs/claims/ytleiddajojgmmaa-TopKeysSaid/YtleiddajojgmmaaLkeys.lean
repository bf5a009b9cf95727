/- The statement TopKeys, as a contract: with the contracts of depend.Holds. The table of bits is laid (Tab). -/
import Derived.Test.YtleiddajojgmmaaUk
import Derived.Test.YtleiddajojgmmaaRq
import Derived.Test.YtleiddajojgmmaaMs
import Derived.Test.YtleiddajojgmmaaGkeys
namespace Go.Proofs.Ytleiddajojgmmaa
open Go Go.RowKit VC
set_option linter.unusedSimpArgs false
set_option linter.unusedVariables false

theorem fill_two4 {A : Array Value} (h : A.size = 4) {a0 a1 b0 b1 : Value} : Instr.fill (fun i => some (i * 2, 2)) A [(0, .agg #[a0, a1]), (1, .agg #[b0, b1])] = some #[a0, a1, b0, b1] := by
  obtain ⟨l⟩ := A
  match l, h with
  | [x0, x1, x2, x3], _ => rfl
theorem bs2f {P : Program} {t e : TypeId} {bytes : Nat} {z : Value} (hT : ElT P t e 2 bytes z) {a0 a1 b0 b1 : Value} (w : World) {K : Value → World → Prop}
    (hk : ∀ w', w' = w.alloc (.cells #[a0, a1, b0, b1] e) → K (.slice (some ⟨w.heap.size, 0, none⟩) 2 2) w') : ∃ v : Value, ∃ w' : World, (Instr.buildSlice t 2 #[(0, .agg #[a0, a1]), (1, .agg #[b0, b1])]).run P w = .ok v w' ∧ K v w' := by
  obtain ⟨i, hi, hz, hsize, hby⟩ := hT.info
  refine ⟨_, _, ?_, hk _ rfl⟩
  have hs : (sizeOf e).run P w = .ok 2 w := by simp [sizeOf, typeInfo, hi, hsize]
  have hzr : (zeroValue e).run P w = .ok z w := by simp [zeroValue, typeInfo, hi, hz]
  simp only [Instr.buildSlice, Sem.run_bind, underlying_run hT.und, Result.andThen_ok, hs]
  rw [if_neg (by omega), if_neg (by omega)]
  have hf := fill_two4 (A := (Array.range (2 * 2)).map fun j => z.cells[j % z.cells.size]!) (by simp) (a0 := a0) (a1 := a1) (b0 := b0) (b1 := b1)
  simp only [Sem.run_bind, hzr, Result.andThen_ok, Sem.run_pure, hf, newRow, run_newObj]
  rfl
/-! ## depend -/
theorem agree_c {w : World} {x y : Value} {xs ys : List Int} (hx : SlI w x xs) (hy : SlI w y ys) (hl : ys.length = xs.length) (h8 : xs.length ≤ 8) : Calls Try.prog 31 #[x, y] w (Ret w (.int .i64 (agrN xs ys xs.length : Nat))) := by
  refine f31_calls _ _ (hx.ln ⟨fun s t w' => ∃ k : Nat, t = k ∧ k ≤ xs.length ∧ s = (agrN xs ys k : Nat) ∧ Grow w w', fun _ t _ => xs.length - t.toNat, ⟨0, rfl, by omega, rfl, Grow.refl _⟩, ?_⟩)
  rintro - s t w9 ⟨k, rfl, hk, rfl, g9⟩
  refine condD (fun hlt => ?_) fun hge => ?_
  · have hkl : k < xs.length := by omega
    have hky : k < ys.length := by omega
    have ex : xs.getD k 0 = xs[k] := by simp [List.getD, hkl]
    have ey : ys.getD k 0 = ys[k] := by simp [List.getD, hky]
    have hs := agrN_succ xs ys k
    rw [ex, ey] at hs
    have hlt1 := agrN_lt xs ys k
    have hp : (2 : Nat) ^ k ≤ 2 ^ 8 := Nat.pow_le_pow_right (by omega) (by omega)
    refine (hx.grow g9).rd rfl hkl ((hy.grow g9).rd rfl hky (condP_i (fun he => ?_) fun hne => ?_))
    · have he : xs[k] = ys[k] := by simpa using he
      rw [if_pos he] at hs
      refine ⟨by omega, by unfold inR; omega, ⟨k + 1, by omega, by omega, ?_, g9⟩, by first | omega | (dsimp only; omega)⟩
      rw [iShl_one (by omega), iOr_nat (by omega) (by omega), hs]
    · have hne : ¬ xs[k] = ys[k] := by simpa using hne
      rw [if_neg hne] at hs
      exact ⟨by unfold inR; omega, ⟨k + 1, by omega, by omega, by rw [hs], g9⟩, by first | omega | (dsimp only; omega)⟩
  · have : k = xs.length := by omega
    subst this
    exact ⟨rfl, g9⟩
theorem table1_c {w : World} {r : Value} {xs : List Int} {p : Addr} {n : Nat} (hr : SlI w r xs) (hc : w.cell? p = some (.int .i64 (n : Int))) : Calls Try.prog 56 #[r, .pointer (some p)] w (Ret w (.bool (!decide (xs.length = n)))) := by
  refine f56_calls _ _ (hr.ln ⟨_, hc, ?_, Grow.refl w⟩)
  have : decide ((xs.length : Int) = (n : Int)) = decide (xs.length = n) := decide_eq_decide.2 (by omega)
  rw [this]
theorem table_c {w : World} {rv : Value} {R : List (List Int)} {n : Nat} (hR : SlL w rv R) (h1 : 1 ≤ n) (h8 : n ≤ 8) (hl : R.length ≤ 60) (hn : ∀ r ∈ R, r.length = n) : Calls Try.prog 29 #[.int .i64 (n : Int), rv] w (Ret w (.bool true)) := by
  refine f29_calls _ _ fun w1 hw1 => ?_
  have g1 := alloc_grow hw1
  have bx := Box.new hw1
  refine ⟨_, bx.cell, cT (decide_eq_true (by omega)) ⟨_, bx.cell, cT (decide_eq_true (by omega)) (SlX.ln (hR.gr g1) (cT (decide_eq_true (by omega)) ((containsL_c (p := fun x => !decide (x.length = n)) (hR.gr g1) ⟨56, #[], _, rfl, rfl, fun x hx w' v gg hv => ?_⟩).mono ?_)))⟩⟩
  · rw [app1]
    exact table1_c hv (gg.cell bx.cell)
  · rintro e w7 ⟨rfl, g7⟩
    have : R.any (fun x => !decide (x.length = n)) = false := by
      rw [List.any_eq_false]
      intro x hx
      simp [hn x hx]
    rw [this]
    exact ⟨_, rfl, rfl, g1.trans g7⟩
theorem sets1_c {w : World} {s n : Nat} {p : Addr} (hn : n < 62) (hc : w.cell? p = some (.int .i64 (n : Int))) : Calls Try.prog 58 #[.int .i64 (s : Int), .pointer (some p)] w (Ret w (.bool (decide (2 ^ n ≤ s)))) := by
  refine f58_calls _ _ (cF (decide_eq_false (by omega)) ⟨_, hc, by omega, ?_, Grow.refl w⟩)
  rw [iShl_one (by omega)]
  have : decide (((2 ^ n : Nat) : Int) ≤ (s : Int)) = decide (2 ^ n ≤ s) := decide_eq_decide.2 (by omega)
  rw [this]
theorem sets_c {w : World} {lv : Value} {F T n : Nat} (hl : SlI w lv [(F : Int), (T : Int)]) (hn : n < 62) (hF : F < 2 ^ n) (hT : T < 2 ^ n) : Calls Try.prog 30 #[.int .i64 (n : Int), lv] w (Ret w (.bool true)) := by
  refine f30_calls _ _ fun w1 hw1 => ?_
  have g1 := alloc_grow hw1
  have bx := Box.new hw1
  refine (containsFunc_c (p := fun x => decide ((2 ^ n : Nat) ≤ x.toNat)) (hl.grow g1) ⟨58, #[], _, rfl, rfl, fun x hx w' gg => ?_⟩).mono ?_
  · obtain ⟨s, rfl⟩ : ∃ s : Nat, x = s := by
      simp only [List.mem_cons, List.not_mem_nil, or_false] at hx
      rcases hx with rfl | rfl
      · exact ⟨_, rfl⟩
      · exact ⟨_, rfl⟩
    rw [app1]
    exact sets1_c hn (gg.cell bx.cell)
  · rintro e w2 ⟨rfl, g2⟩
    have : ([(F : Int), (T : Int)].any fun x => decide ((2 ^ n : Nat) ≤ x.toNat)) = false := by
      simp only [List.any_cons, List.any_nil, Bool.or_false, Int.toNat_natCast, Bool.or_eq_false_iff, decide_eq_false_iff_not]
      omega
    rw [this]
    exact ⟨_, rfl, rfl, g1.trans g2⟩
theorem holdN_bad {F T k : Nat} {R : List (List Int)} {i j : Nat} (hi : i < R.length) (hj : j < i) (h : badN F T k (R.getD i []) (R.getD j []) = true) : holdN F T k R = false := by
  unfold holdN
  rw [← Bool.not_eq_true, List.all_eq_true]
  intro h2
  have := h2 i (List.mem_range.2 hi)
  rw [List.all_eq_true] at this
  have := this j (List.mem_range.2 hj)
  rw [h] at this
  cases this
theorem holds_c {w : World} {rv : Value} {R : List (List Int)} {F T n : Nat} (hR : SlL w rv R) (h1 : 1 ≤ n) (h8 : n ≤ 8) (hl : R.length ≤ 60) (hn : ∀ r ∈ R, r.length = n) (hF : F < 2 ^ n) (hT : T < 2 ^ n) :
    Calls Try.prog 11 #[.int .i64 (n : Int), rv, .agg #[.int .i64 (F : Int), .int .i64 (T : Int)]] w (Ret w (.tuple #[.bool (holdN F T n R), .int .i64 0])) := by
  refine f11_calls _ _ _ ⟨_, rfl, fun w1 hw1 => ?_⟩
  have g1 := alloc_grow hw1
  have hD := RecV.new hw1
  have hp : (2 : Nat) ^ n ≤ 2 ^ 8 := Nat.pow_le_pow_right (by omega) (by omega)
  refine (table_c (hR.gr g1) h1 h8 hl hn).mono ?_
  rintro e w3 ⟨rfl, g3⟩
  have hD3 := hD.grow g3
  refine ⟨_, rfl, cF rfl ⟨_, hD3.cell (j := 0) rfl, _, hD3.cell (j := 1) rfl, fun w8 hw8 => ?_⟩⟩
  have g8 := alloc_grow hw8
  have hs := slI_lit (xs := [(F : Int), (T : Int)]) hw8 rfl (by simp)
  refine (sets_c hs (by omega) hF hT).mono ?_
  rintro e w9 ⟨rfl, g9⟩
  have g19 := (g3.trans g8).trans g9
  have g09 := g1.trans g19
  have hD9 := hD.grow g19
  have hR9 := hR.gr g09
  refine ⟨_, rfl, cF rfl (SlX.ln hR9 ⟨fun t w' => ∃ i : Nat, t = i ∧ i ≤ R.length ∧ (∀ a, a < i → ∀ c, c < a → badN F T n (R.getD a []) (R.getD c []) = false) ∧ Grow w9 w', fun t _ => R.length - t.toNat, ⟨0, rfl, by omega, fun a ha => absurd ha (by omega), Grow.refl _⟩, ?_⟩)⟩
  rintro - t w19 ⟨i, rfl, hi, hno, g919⟩
  refine condD (fun hlt => ?_) fun hge => ?_
  · have hil : i < R.length := by omega
    have ei : R.getD i [] = R[i] := by simp [List.getD, hil]
    have hRi := hR9.gr g919
    refine rdR hRi (Grow.refl _) rfl hil fun x hx => ?_
    obtain ⟨pa, pn, pc, pe, pl, ph, pm, pb, hv⟩ := SlX.upto hRi (i := i) (ik := .i64) (z := (i : Int)) rfl hi (K := fun v' => SlL w19 v' (R.take i)) fun v' h => h
    refine ⟨pa, pn, pc, pe, pl, ph, pm, pb, SlX.ln hv ?_⟩
    have hlen : (R.take i).length = i := by simp; omega
    rw [hlen]
    refine ⟨fun t w' => ∃ j : Nat, t = j ∧ j ≤ i ∧ (∀ c, c < j → badN F T n (R.getD i []) (R.getD c []) = false) ∧ Grow w19 w', fun t _ => i - t.toNat, ⟨0, rfl, by omega, fun c hc => absurd hc (by omega), Grow.refl _⟩, ?_⟩
    rintro - t w37 ⟨j, rfl, hj, hno2, g37⟩
    refine condD (fun hlt2 => ?_) fun hge2 => ?_
    · have hji : j < i := by omega
      have hjR : j < R.length := by omega
      have ej : R.getD j [] = R[j] := by simp [List.getD, hjR]
      have hjt : j < (R.take i).length := by omega
      refine rdR (hv.gr g37) (Grow.refl _) rfl hjt fun y hy => ?_
      rw [List.getElem_take] at hy
      have lx := hn _ (List.getElem_mem hil)
      have ly := hn _ (List.getElem_mem hjR)
      refine (agree_c (hx.grow g37) hy (by omega) (by omega)).mono ?_
      rintro e w42 ⟨rfl, g42⟩
      rw [lx]
      have hD42 := hD9.grow ((g919.trans g37).trans g42)
      have al := agrN_lt R[i] R[j] n
      have bad : badN F T n (R.getD i []) (R.getD j []) = (decide (nSub F (agrN R[i] R[j] n) = 0) && !decide (nSub T (agrN R[i] R[j] n) = 0)) := by rw [ei, ej]; rfl
      have nz : ∀ {a : Nat}, decide (((a : Nat) : Int) = 0) = decide (a = 0) := fun {a} => decide_eq_decide.2 (by omega)
      have step : badN F T n (R.getD i []) (R.getD j []) = false → inR ((j : Int) + 1) ∧ ((∃ j' : Nat, (j : Int) + 1 = j' ∧ j' ≤ i ∧ (∀ c, c < j' → badN F T n (R.getD i []) (R.getD c []) = false) ∧ Grow w19 w42) ∧ i - Int.toNat ((j : Int) + 1) < i - Int.toNat (j : Int)) := fun hb => by
        refine ⟨by unfold inR; omega, ⟨j + 1, by omega, by omega, fun c hc => ?_, g37.trans g42⟩, by omega⟩
        by_cases e : c = j
        · rw [e]; exact hb
        · exact hno2 c (by omega)
      refine ⟨_, rfl, _, hD42.cell (j := 0) rfl, ?_⟩
      rw [iAndNot_nat (by omega) (by omega), nz]
      refine condP_i (fun h1 => ⟨_, hD42.cell (j := 1) rfl, ?_⟩) fun h1 => step ?_
      · rw [iAndNot_nat (by omega) (by omega), nz]
        refine condP_i (fun h2 => ?_) fun h2 => step ?_
        · have hb : badN F T n (R.getD i []) (R.getD j []) = true := by rw [bad, h1, h2]; rfl
          rw [holdN_bad hil hji hb]
          exact ⟨rfl, ((g09.trans g919).trans g37).trans g42⟩
        · rw [bad, h1, h2]; rfl
      · rw [bad, h1]; rfl
    · have hji : j = i := by omega
      subst hji
      refine ⟨by unfold inR; omega, ⟨j + 1, by omega, by omega, fun a ha c hc => ?_, g919.trans g37⟩, by first | omega | (dsimp only; omega)⟩
      by_cases e : a = j
      · rw [e]; exact hno2 c (by omega)
      · exact hno a (by omega) c hc
  · have hiR : i = R.length := by omega
    subst hiR
    have : holdN F T n R = true := by
      unfold holdN
      rw [List.all_eq_true]
      intro a ha
      rw [List.all_eq_true]
      intro c hc
      rw [hno a (List.mem_range.1 ha) c (List.mem_range.1 hc)]
      rfl
    rw [this]
    exact ⟨rfl, g09.trans g919⟩
/-! ## The statement -/
theorem repairs_val : okR [1, 1, 1, 1, 1, 1] [(0, [1, 2]), (0, [2, 2])] = true ∧ (allR (klS [1, 1, 1, 1, 1, 1]) [(0, [1, 2]), (0, [2, 2])]).length = 1 := by decide
theorem repairs7_c {w : World} : Calls Try.prog 7 #[] w (Ret w (.bool true)) := by
  refine f7_calls ?_
  intro w1 hw1 w2 hw2
  have g1 := alloc_grow hw1
  have g2 := alloc_grow hw2
  have hs := slI_lit (xs := [1, 1, 1, 1, 1, 1]) hw1 rfl (by simp)
  have h1 := slI_lit (xs := [1, 2]) hw2 rfl (by simp)
  refine ⟨SlI.one h1, fun w3 hw3 => ?_⟩
  have g3 := alloc_grow hw3
  have h2 := slI_lit (xs := [2, 2]) hw3 rfl (by simp)
  refine ⟨SlI.one h2, bs2f el_fact w3 fun w5 hw5 => ?_⟩
  have g5 := alloc_grow hw5
  have hl : SlA w5 (.slice (some ⟨w3.heap.size, 0, none⟩) 2 2) [(0, [1, 2]), (0, [2, 2])] := by
    have h := Own.lit (B := w3.heap.size) (n := 2) (sz := 2) hw5 (Nat.le_refl _) (by omega) (by simp)
    have := SlX.of_cells (k := 2) (rep := repA) (w := w5) (v := .slice (some ⟨w3.heap.size, 0, none⟩) 2 2) (ps := [([.int .i64 0, .slice (some ⟨w1.heap.size, 0, none⟩) 2 2], (0, [1, 2])), ([.int .i64 0, .slice (some ⟨w2.heap.size, 0, none⟩) 2 2], (0, [2, 2]))]) (fun p hp => by
      simp only [List.mem_cons, List.not_mem_nil, or_false] at hp
      rcases hp with rfl | rfl
      · exact ⟨rfl, _, rfl, SlI.grow h1 (g3.trans g5)⟩
      · exact ⟨rfl, _, rfl, SlI.grow h2 g5⟩) (by simpa using h.slC)
    simpa using this
  refine (repairsN_c (SlI.grow hs ((g2.trans g3).trans g5)) hl).mono ?_
  rintro e w7 ⟨rfl, g7⟩
  rw [if_pos repairs_val.1, if_pos repairs_val.1, repairs_val.2]
  exact ⟨_, _, rfl, cT rfl ⟨rfl, (((g1.trans g2).trans g3).trans g5).trans g7⟩⟩
theorem topKeys_c {w : World} {sv fv : Value} {s : List Int} {L : List Atm} (hs : SlI w sv s) (hl : SlA w fv L) :
    Calls Try.prog 3 #[sv, fv] w (Ret w (.bool true)) := by
  refine f3_calls _ _ ((refValidR_c hs hl).mono ?_)
  rintro e w1 ⟨rfl, g1⟩
  have fin : ∀ {E : World}, Grow w E → Calls Try.prog 7 #[] E fun e w' => ∃ t : Bool, e = .returned (Value.bool t) ∧ Ret w (.bool true) (.returned (Value.bool t)) w' := fun gE => repairs7_c.mono (by
    rintro e w23 ⟨rfl, g23⟩
    exact ⟨_, rfl, rfl, gE.trans g23⟩)
  refine ⟨_, rfl, condP_i (fun _ => fin g1) fun hok => ?_⟩
  have hok : okR s L = true := by simpa using hok
  obtain ⟨hS, h12, hFs, hnd, hlen⟩ := okR_out hok
  have hF : ∀ f ∈ L, okF f = true := by
    simp only [okFs, Bool.and_eq_true, decide_eq_true_eq] at hFs
    exact List.all_eq_true.1 hFs.2
  have e9 := okR_trF hok
  have hsl : s.length ≤ 9 := by rw [← e9.2, List.length_take]; omega
  refine (clone_c (hs.grow g1) (by omega)).mono ?_
  rintro e w7 ⟨s1, rfl, o1, g7⟩
  have g07 := g1.trans g7
  refine ⟨_, rfl, (factsS_c (hl.gr g07)).mono ?_⟩
  rintro e w10 ⟨f1, rfl, o2, g10⟩
  have g010 := g07.trans g10
  rw [e9.1] at o2
  refine ⟨_, rfl, (repairsN_c (SlI.grow (Own.slI o1) g10) o2).mono ?_⟩
  rw [if_pos hok, if_pos hok]
  rintro e w13 ⟨rfl, g13⟩
  have g013 := g010.trans g13
  refine ⟨_, _, rfl, cF rfl ⟨fun c t w' => ∃ r : Nat, t = r ∧ r ≤ 6 ∧ c = cleanB (klS s) L r ∧ Grow w w', fun _ t _ => 6 - t.toNat, ⟨0, rfl, by omega, rfl, g013⟩, ?_⟩⟩
  rintro - c t w22 ⟨r, rfl, hr, rfl, g22⟩
  refine condD (fun hlt => ?_) fun hge => ?_
  · have hr6 : r < 6 := by omega
    refine (factsS_c (hl.gr g22)).mono ?_
    rintro e w23 ⟨f2, rfl, o3, g23⟩
    rw [e9.1] at o3
    have hLl := SlX.len_le o3
    refine ⟨_, rfl, SlX.ln o3 ⟨fun rows t w' => ∃ k : Nat, t = k ∧ k ≤ L.length ∧ OwnX (fun b => w23.heap.size ≤ b) 1 repI w' w23.heap.size 22 rows (rowsR (L.take k) r) ∧ Grow w23 w', fun _ t _ => L.length - t.toNat, ⟨0, rfl, by omega, OwnX.nil _ _ _, Grow.refl _⟩, ?_⟩⟩
    rintro - rows t w34 ⟨k, rfl, hk, hrows, g34⟩
    refine condD (fun hlt2 => ?_) fun hge2 => ?_
    · have hkl : k < L.length := by omega
      have hsn := rowsR_snoc hkl (r : Int)
      refine locR o3 g34 rfl hkl rfl fun w40 u g40 s40 hu hRec => ?_
      refine ⟨_, hRec.cell (j := 0) rfl, condP_i (fun he => ?_) fun hne => ?_⟩
      · have he : L[k].1 = (r : Int) := by simpa using he
        rw [if_pos he] at hsn
        refine ⟨u, hRec.cell (j := 1) rfl, hu.one, fun w44 hw44 => ?_⟩
        have hlr : (rowsR (L.take k) r).length ≤ 12 := by
          unfold rowsR
          rw [List.length_map]
          refine Nat.le_trans (List.length_filter_le _ _) ?_
          rw [List.length_take]
          omega
        have z34 := g34.size
        refine pappX1 el_row (by omega) (cs := [u]) (y := L[k].2) (hrows.grow g40) hw44 (elx_oldI hu (g34.trans g40) (fun q hq => hq) fun q hq => (hrows.lt hq).1) (by omega) (by omega) (by omega) ?_
        intro v2 w46 ho2 hf2 _ _
        refine ⟨by unfold inR; omega, ⟨k + 1, by omega, by omega, ?_, ?_⟩, by first | omega | (dsimp only; omega)⟩
        · rw [hsn]
          exact ho2
        · exact ((g34.trans g40).trans (alloc_grow hw44)).fr hf2 fun q hq e => by have := (hrows.lt e.symm).1; omega
      · have hne : ¬ L[k].1 = (r : Int) := by simpa using hne
        rw [if_neg hne] at hsn
        exact ⟨by unfold inR; omega, ⟨k + 1, by omega, by omega, by rw [hsn]; exact hrows.grow g40, g34.trans g40⟩, by first | omega | (dsimp only; omega)⟩
    · have hkn : k = L.length := by omega
      subst hkn
      rw [List.take_length] at hrows
      have hX : SlL w34 rows (rowsR L r) := OwnX.slX hrows
      have g034 := (g22.trans g23).trans g34
      have hcs := cleanB_succ (klS s) L r
      refine SlX.ln hX (condP_i (fun h0 => ?_) fun h0 => ?_)
      · have h0 : rowsR L (r : Int) = [] := List.length_eq_zero_iff.1 (by simpa using h0)
        have : relB (klS s) L (r : Int) = true := by unfold relB; rw [h0]
        rw [this, Bool.and_true] at hcs
        exact ⟨by unfold inR; omega, ⟨r + 1, by omega, by omega, hcs.symm, g034⟩, by first | omega | (dsimp only; omega)⟩
      · cases hR : rowsR L (r : Int) with
        | nil => rw [hR] at h0; simp at h0
        | cons x R =>
          rw [hR] at hX
          have hx : x ∈ rowsR L (r : Int) := by rw [hR]; exact List.mem_cons_self ..
          have hfx : okF ((r : Int), x) = true := hF _ (mem_rowsR.1 hx)
          have hxl := okF_iff.1 hfx
          dsimp only at hxl
          have hl' : ∀ y ∈ x :: R, y.length = x.length := fun y hy => by
            rw [← hR] at hy
            exact hlen _ (mem_rowsR.1 hy) _ (mem_rowsR.1 hx) rfl
          have hRl : (x :: R).length ≤ 12 := by
            rw [← hR]
            unfold rowsR
            rw [List.length_map]
            exact Nat.le_trans (List.length_filter_le _ _) h12
          obtain ⟨hk0, hk1, hk2⟩ := okS_get hS (r := (r : Int)) (by omega) (by omega)
          have hrs : r < s.length := by simpa using hk0
          have ekl : s[r]'hrs = (klS s (r : Int) : Int) := by simpa using hk1
          have emin : (if (x.length : Int) < s[r]'hrs then (x.length : Int) else s[r]'hrs) = ((min (klS s (r : Int)) x.length : Nat) : Int) := by
            rw [ekl]
            split <;> omega
          have p1 : (2 : Nat) ^ (min (klS s (r : Int)) x.length) ≤ 2 ^ x.length := Nat.pow_le_pow_right (by omega) (Nat.min_le_right _ _)
          have p2 : (2 : Nat) ^ x.length ≤ 2 ^ 8 := Nat.pow_le_pow_right (by omega) (by have := hxl; omega)
          have p3 := Nat.two_pow_pos (min (klS s (r : Int)) x.length)
          have p4 := Nat.two_pow_pos x.length
          have rel : relB (klS s) L (r : Int) = holdN (2 ^ (min (klS s (r : Int)) x.length) - 1) (2 ^ x.length - 1) x.length (x :: R) := by unfold relB; rw [hR]
          refine rdR hX (Grow.refl _) (i := 0) rfl (by simp) fun x0 hx0 => hx0.ln ((hs.grow g034).rd rfl (by omega) ?_)
          simp only [List.getElem_cons_zero]
          rw [emin, iShl_one (by omega), iShl_one (by omega)]
          refine ⟨by omega, by unfold inR; omega, by omega, by unfold inR; omega, relB (klS s) L (r : Int), 0, fun w61 g61 => ?_, fun w66 g66 => cF rfl ?_⟩
          · rw [rel]
            have := holds_c (w := w61) (F := 2 ^ (min (klS s (r : Int)) x.length) - 1) (T := 2 ^ x.length - 1) (n := x.length) (hX.gr g61) (by omega) (by omega) (by omega) hl' (by omega) (by omega)
            have c1 : (((2 ^ (min (klS s (r : Int)) x.length) : Nat) : Int) - 1) = ((2 ^ (min (klS s (r : Int)) x.length) - 1 : Nat) : Int) := by omega
            have c2 : (((2 ^ x.length : Nat) : Int) - 1) = ((2 ^ x.length - 1 : Nat) : Int) := by omega
            rw [c1, c2]
            exact this
          · have g066 := g034.trans g66
            refine condP_i (fun hc => ?_) fun hc => ?_
            · have hc : cleanB (klS s) L r = true := hc
              exact ⟨by unfold inR; omega, ⟨r + 1, by omega, by omega, by rw [hcs, hc, Bool.true_and], g066⟩, by first | omega | (dsimp only; omega)⟩
            · have hc : cleanB (klS s) L r = false := by simpa using hc
              exact ⟨by unfold inR; omega, ⟨r + 1, by omega, by omega, by rw [hcs, hc, Bool.false_and], g066⟩, by first | omega | (dsimp only; omega)⟩
  · have hr6 : r = 6 := by omega
    subst hr6
    refine cT ?_ (fin g22)
    rw [beq_iff_eq, Bool.eq_iff_iff, clean_iff hF hlen, decide_eq_true_eq, ← one_clean hnd]
    omega
end Go.Proofs.Ytleiddajojgmmaa
