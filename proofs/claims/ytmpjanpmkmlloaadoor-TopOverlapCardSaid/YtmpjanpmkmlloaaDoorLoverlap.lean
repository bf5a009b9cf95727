/- The law TopOverlap: its contract. -/
import Derived.Test.YtmpjanpmkmlloaaDoorLmodels
import Derived.Test.YtmpjanpmkmlloaaDoorVn
namespace Go.Proofs.YtmpjanpmkmlloaaDoor
open Go Go.RowKit VC
set_option linter.unusedSimpArgs false
set_option linter.unusedVariables false

theorem equalS3 {P : Program} {t : TypeId} {f0 f1 f2 : Field} (hu : P.underlying t = some (.struct #[f0, f1, f2])) (hp : P.stoodInHeld t = false) (hn : f0.name ≠ "_" ∧ f1.name ≠ "_" ∧ f2.name ≠ "_")
    (h0 : P.underlying f0.type = some (.int .i64)) (h1 : P.underlying f1.type = some (.int .i64)) (h2 : P.underlying f2.type = some (.int .i64)) (ho : f0.offset = 0 ∧ f1.offset = 1 ∧ f2.offset = 2) (d : Nat) (a b c x y z : Int) (w : World) :
    (Op.equalIn (d + 2) t (.agg #[.int .i64 a, .int .i64 b, .int .i64 c]) (.agg #[.int .i64 x, .int .i64 y, .int .i64 z])).run P w = .ok (decide (a = x ∧ b = y ∧ c = z)) w := by
  have hf : P.fieldsOf t = #[f0, f1, f2] := by unfold Program.fieldsOf; rw [hu]
  have pt : ∀ {e : TypeId} (_ : P.underlying e = some (.int .i64)) (xs : Array Value) (i : Nat) (v : Value), xs[i]? = some v → (part e xs i).run P w = .ok v w := fun he xs i v hv => part_one he (by intro fs h; cases h) (by intro n e' h; cases h) xs i v hv w
  have i1 : ∀ {e : TypeId} (_ : P.underlying e = some (.int .i64)) (u v : Int), (Op.equalIn (d + 1) e (.int .i64 u) (.int .i64 v)).run P w = .ok (u == v) w := fun he u v => run_equalIn_int w d _ .i64 .i64 u v he
  rw [run_equalIn_struct w (d + 1) t _ _ (by rw [hf]; exact hu) hp, hf]
  simp [Op.eqFields, hn.1, hn.2.1, hn.2.2, ho.1, ho.2.1, ho.2.2, pt h0, pt h1, pt h2, i1 h0, i1 h1, i1 h2]
  by_cases e1 : a = x <;> by_cases e2 : b = y <;> by_cases e3 : c = z <;> simp [e1, e2, e3]
theorem eqOp {ox oy : Operand} (a b : Int × Int × Int) : PBinR Tryd.prog .eql 67 ox oy (.agg (opF a).toArray) (.agg (opF b).toArray) (decide (a = b)) := fun w => by
  have hm : Tryd.prog.eqGuardType Tryd.prog.depth 67 = false := by kernel_rfl
  simp only [Sem.run_bind, run_eqGuard_agg (hm := hm), Result.andThen_ok, run_eql_struct]
  have := equalS3 (P := Tryd.prog) Tryd.underlying67 (by kernel_rfl) ⟨by decide, by decide, by decide⟩ (by kernel_rfl) (by kernel_rfl) (by kernel_rfl) ⟨rfl, rfl, rfl⟩ 9998 a.1 a.2.1 a.2.2 b.1 b.2.1 b.2.2 w
  have e : (decide (a = b)) = decide (a.1 = b.1 ∧ a.2.1 = b.2.1 ∧ a.2.2 = b.2.2) := by
    obtain ⟨a1, a2, a3⟩ := a; obtain ⟨b1, b2, b3⟩ := b
    rw [Bool.eq_iff_iff]; simp
  rw [e]
  exact congrArg (fun r => Result.andThen r fun (b : Bool) w' => Result.ok (Value.bool b) w') this
theorem el_hist : ElT Tryd.prog 64 67 3 24 (.agg #[.int .i64 0, .int .i64 0, .int .i64 0]) := ⟨by kernel_rfl, ⟨Tryd.t67, by kernel_rfl, by kernel_rfl, by kernel_rfl, by kernel_rfl⟩, rfl⟩
/-- A valid history is short; no more is needed. -/
theorem histValid_c {w : World} {v : Value} {hs : List (Int × Int × Int)} (h : SlR opF w v hs) : Calls Tryd.prog 51 #[v] w fun e w' => ∃ b : Bool, e = .returned (.bool b) ∧ (b = true → hs.length ≤ 40) ∧ Grow w w' := by
  refine f51_calls _ ?_
  have hle := h.len_le
  have no : ∀ {w'}, Grow w w' → ∃ b : Bool, (Ending.returned (Value.bool false)) = .returned (.bool b) ∧ (b = true → hs.length ≤ 40) ∧ Grow w w' := fun g => ⟨false, rfl, fun h => by (cases h), g⟩
  refine h.ln ⟨fun t w' => ∃ k : Nat, t = k ∧ k ≤ hs.length ∧ Grow w w', fun t _ => hs.length - t.toNat, ⟨0, rfl, by omega, Grow.refl w⟩, ?_⟩
  rintro - t w1 ⟨k, rfl, hk, g1⟩
  refine condD (fun hlt => ?_) (fun hge => h.ln ⟨_, rfl, fun h => ?_, g1⟩)
  · have hkl : k < hs.length := by omega
    refine (h.grow g1).rd opF_len rfl hkl fun w2 hw2 => ?_
    refine setR (cs := opF _) hw2 rfl (opF_one _) fun w3 g3 _ c3 => ?_
    have g03 := g1.trans g3
    refine ⟨fun w' => w' = w3, ⟨_, c3 0 _ rfl, condD (fun _ => no g03) fun _ => ⟨_, c3 0 _ rfl, condD (fun _ => no g03) fun _ => ⟨_, c3 1 _ rfl, condD (fun _ => no g03) fun _ => ⟨_, c3 1 _ rfl, condD (fun _ => no g03) fun _ => ⟨_, c3 2 _ rfl, condD (fun _ => no g03) fun _ => ⟨_, c3 2 _ rfl, condD (fun _ => no g03) fun _ => ⟨_, c3 1 _ rfl, condD (fun _ => ⟨_, c3 2 _ rfl, condP_i (fun _ => no g03) fun _ => rfl⟩) fun _ => rfl⟩⟩⟩⟩⟩⟩⟩, ?_⟩
    rintro - w4 rfl
    obtain ⟨a0, n0, c0, e0, l0, hh0, m0, hsb, hv'⟩ := (h.grow g1).upto (K := fun v' => SlR opF w1 v' (hs.take k)) opF_len (ik := .i64) rfl (show k ≤ hs.length by omega) (fun _ h => h)
    refine ⟨a0, n0, c0, e0, l0, hh0, m0, hsb, hv'.ln ?_⟩
    have hl' : (hs.take k).length = k := by simp; omega
    rw [hl']
    refine ⟨fun t w' => ∃ j : Nat, t = j ∧ j ≤ k ∧ Grow w4 w', fun t _ => k - t.toNat, ⟨0, rfl, by omega, Grow.refl w4⟩, ?_⟩
    rintro - t w5 ⟨j, rfl, hj, g5⟩
    refine condD (fun hlt2 => ?_) (fun hge2 => ⟨by unfold inR; omega, ⟨k + 1, by omega, by omega, g03.trans g5⟩, by dsimp only; omega⟩)
    have hjk : j < k := by omega
    refine (hv'.grow (g3.trans g5)).rd opF_len rfl (by rw [hl']; exact hjk) fun w6 hw6 => ?_
    refine setR (cs := opF _) hw6 rfl (opF_one _) fun w7 g7 _ c7 => ?_
    have g57 := g5.trans g7
    have next : inR ((j : Int) + 1) ∧ (∃ j' : Nat, (j : Int) + 1 = j' ∧ j' ≤ k ∧ Grow w4 w7) ∧ k - Int.toNat ((j : Int) + 1) < k - Int.toNat (j : Int) := ⟨by unfold inR; omega, ⟨j + 1, by omega, by omega, g57⟩, by omega⟩
    exact ⟨_, c7 0 _ rfl, _, g57.cell (c3 0 _ rfl), condD (fun _ => ⟨_, c7 1 _ rfl, condD (fun _ => no (g03.trans g57)) fun _ => next⟩) fun _ => next⟩
  · have : hs.length ≤ 40 := by
      have := of_decide_eq_true h
      omega
    exact this
theorem eliminates_c {w : World} (hT : Tab w) : Calls Tryd.prog 52 #[] w (Ret w (.bool true)) := by
  refine f52_calls ?_
  intro w1 hw1
  have g1 := alloc_grow hw1
  have hl := Own.lit (B := w.heap.size) (n := 1) (sz := 1) hw1 (Nat.le_refl _) (by omega) (by simp)
  have hs : SlI w1 (.slice (some ⟨w.heap.size, 0, none⟩) 1 1) (ofN [0]) := hl.slC
  have hN : VN [0] := ⟨by simp, by simp, fun i hi => by simp at hi; subst hi; simp, fun i hi => by simp at hi; subst hi; simp, fun i j hi hj => by simp at hi hj; subst hi; subst hj; rfl⟩
  have ho : ordG [0] = some [0] := by decide +kernel
  refine (Order_c hs hN (hT.grow g1)).mono ?_
  rintro e w2 ⟨u, rfl, hu, g2⟩
  rw [ho] at hu ⊢
  refine ⟨_, _, rfl, cT (by simp) fun w3 hw3 => ?_⟩
  have g3 := alloc_grow hw3
  have hl3 := Own.lit (B := w2.heap.size) (n := 1) (sz := 1) hw3 (Nat.le_refl _) (by omega) (by simp)
  have hs3 : SlI w3 (.slice (some ⟨w2.heap.size, 0, none⟩) 1 1) (ofN [0]) := hl3.slC
  refine (equal_c (hu.slI.grow g3) hs3).mono ?_
  rintro e w4 ⟨rfl, g4⟩
  exact ⟨_, rfl, rfl, ((g1.trans g2).trans g3).trans g4⟩
theorem idxHist_c {w : World} {v : Value} {hs : List (Int × Int × Int)} {o : Int × Int × Int} (h : SlR opF w v hs) : Calls Tryd.prog 53 #[v, .agg (opF o).toArray] w fun e w' => ∃ r : Int, e = .returned (.int .i64 r) ∧ (0 ≤ r → ∃ i : Nat, r = i ∧ hs[i]? = some o) ∧ Grow w w' := by
  refine f53_calls _ _ ?_
  have hle := h.len_le
  refine ⟨_, rfl, fun w1 hw1 => ?_⟩
  have g1 := alloc_grow hw1
  have hrow : w1.heap[w.heap.size]? = some (.cells (opF o).toArray 67 (0, 0)) := by subst hw1; exact heap_alloc_new w _
  have c1 := row_cells hrow
  refine h.ln ⟨fun t w' => ∃ k : Nat, t = k ∧ k ≤ hs.length ∧ Grow w1 w', fun t _ => hs.length - t.toNat, ⟨0, rfl, by omega, Grow.refl w1⟩, ?_⟩
  rintro - t w2 ⟨k, rfl, hk, g2⟩
  refine condD (fun hlt => ?_) (fun hge => ⟨_, rfl, fun h => by omega, g1.trans g2⟩)
  have hkl : k < hs.length := by omega
  refine ⟨opF o, rfl, fun j u hj => g2.cell (c1 j u (by simpa using hj)), (h.grow (g1.trans g2)).rd opF_len rfl hkl ⟨_, eqOp _ _, fun m => condD (fun e => ⟨_, rfl, fun _ => ⟨k, rfl, by rw [List.getElem?_eq_getElem hkl, e]⟩, (g1.trans g2).dr m⟩) fun e => ⟨by unfold inR; omega, ⟨k + 1, by omega, by omega, g2.dr m⟩, by dsimp only; omega⟩⟩⟩
theorem idxTxn_c {w : World} {v : Value} {hs : List (Int × Int × Int)} {t : Int} {a : Addr} (h : SlR opF w v hs) (ha : w.cell? a = some (.int .i64 t)) {c : Nat} (hc : c < hs.length) (hct : hs[c].1 = t) :
    Calls Tryd.prog 54 #[v, .func (.func 55) #[] #[.pointer (some a)]] w fun e w' => ∃ r : Nat, e = .returned (.int .i64 (r : Int)) ∧ r ≤ c ∧ Grow w w' := by
  refine f54_calls _ _ ?_
  have hle := h.len_le
  refine h.ln ⟨fun t w' => ∃ k : Nat, t = k ∧ k ≤ c ∧ Grow w w', fun t _ => hs.length - t.toNat, ⟨0, rfl, by omega, Grow.refl w⟩, ?_⟩
  rintro - t' w1 ⟨k, rfl, hk, g1⟩
  refine condD (fun hlt => ?_) (fun hge => by omega)
  have hkl : k < hs.length := by omega
  refine (h.grow g1).rd opF_len rfl hkl ⟨_, _, _, rfl, rfl, ?_⟩
  have lit : Calls Tryd.prog 55 #[.agg (opF hs[k]).toArray, .pointer (some a)] w1 (Ret w1 (.bool (decide (hs[k].1 = t)))) := by
    refine f55_calls _ _ ?_
    refine ⟨_, rfl, fun w2 hw2 => ?_⟩
    have g2 := alloc_grow hw2
    have hrow : w2.heap[w1.heap.size]? = some (.cells (opF hs[k]).toArray 67 (0, 0)) := by subst hw2; exact heap_alloc_new w1 _
    exact ⟨_, row_cells hrow 0 _ rfl, _, g2.cell (g1.cell ha), rfl, g2⟩
  refine lit.mono ?_
  rintro e w2 ⟨rfl, g2⟩
  refine ⟨_, rfl, condD (fun hb => ⟨k, rfl, hk, g1.trans g2⟩) fun hb => ?_⟩
  have : k ≠ c := fun e => by subst e; exact hb hct
  exact ⟨by unfold inR; omega, ⟨k + 1, by omega, by omega, g1.trans g2⟩, by dsimp only; omega⟩
/-! ## The graph of spans that overlap -/
def ovl (ps : List (Int × Int)) (i j : Nat) : Bool := decide (i ≠ j) && decide ((gp ps i).1 ≤ (gp ps j).2) && decide ((gp ps j).1 ≤ (gp ps i).2)
open Classical in
noncomputable def ovN (ps : List (Int × Int)) : List Nat := (List.range ps.length).map fun i => mkS fun j => j < ps.length ∧ ovl ps i j = true
@[simp] theorem ovN_len (ps : List (Int × Int)) : (ovN ps).length = ps.length := by simp [ovN]
theorem nb_ov {ps : List (Int × Int)} (h12 : ps.length ≤ 12) {i j : Nat} (hi : i < ps.length) : (nb (ovN ps) i).testBit j = true ↔ j < ps.length ∧ ovl ps i j = true := by
  have : nb (ovN ps) i = mkS fun j => j < ps.length ∧ ovl ps i j = true := by simp [nb, ovN, hi]
  rw [this, mkS_bit]
  constructor
  · exact fun h => h.2
  · exact fun h => ⟨by omega, h⟩
theorem ovl_symm (ps : List (Int × Int)) (i j : Nat) : ovl ps i j = ovl ps j i := by
  unfold ovl
  rw [Bool.eq_iff_iff]
  simp
  constructor
  · rintro ⟨⟨h1, h2⟩, h3⟩; exact ⟨⟨fun e => h1 e.symm, h3⟩, h2⟩
  · rintro ⟨⟨h1, h2⟩, h3⟩; exact ⟨⟨fun e => h1 e.symm, h3⟩, h2⟩
theorem ovN_VN {ps : List (Int × Int)} (h1 : 1 ≤ ps.length) (h12 : ps.length ≤ 12) : VN (ovN ps) := by
  have hb : ∀ i j (hi : i < (ovN ps).length), (ovN ps)[i].testBit j = true ↔ j < ps.length ∧ ovl ps i j = true := fun i j hi => by
    rw [nb_get, nb_ov h12 (by simpa using hi)]
  refine ⟨by simpa using h1, by simpa using h12, fun i hi => Nat.lt_pow_two_of_testBit _ fun j hj => ?_, fun i hi => ?_, fun i j hi hj => ?_⟩
  · cases h : (ovN ps)[i].testBit j with
    | false => rfl
    | true => have := ((hb i j hi).1 h).1; simp at hj; omega
  · cases h : (ovN ps)[i].testBit i with
    | false => rfl
    | true => have := ((hb i i hi).1 h).2; simp [ovl] at this
  · rw [Bool.eq_iff_iff, hb i j hi, hb j i hj, ovl_symm ps i j]
    simp at hi hj
    simp [hi, hj]
theorem ovN_mdp {ps : List (Int × Int)} (h12 : ps.length ≤ 12) (hok : ∀ i, i < ps.length → okP (gp ps i)) : MdP (ovN ps) ps := by
  refine ⟨by simp, hok, fun i j hi hj => ?_⟩
  unfold meetP
  rw [nb_ov h12 hi]
  unfold ovl
  simp
  constructor
  · rintro ⟨a, b⟩; exact ⟨by omega, ⟨by omega, a⟩, b⟩
  · rintro ⟨_, ⟨_, a⟩, b⟩; exact ⟨a, b⟩
theorem MdP.good {N : List Nat} (hN : VN N) {ps : List (Int × Int)} (h : MdP N ps) : ∃ P, Good N P := by
  rw [good_iff hN]
  have := h.mdl hN
  exact ⟨this.chordal hN, (firstA_none hN).2 (this.no_at hN)⟩
/-! ## The law -/
/-- append of one int: and where the result lies. -/
theorem pappK {w w1 : World} {B : Nat} {v : Value} {x : Int} {xs : List Int} (hw : w1 = w.alloc (.cells #[.int .i64 x] 3)) (hown : OwnI w B v xs) (hB : B ≤ w.heap.size) (hlen : xs.length ≤ 1000000) {K : Value → World → Prop}
    (hk : ∀ v' w', OwnI w' B v' (xs ++ [x]) → Fr (fun k => some k = v.ownBlock) w1 w' → (v'.ownBlock = v.ownBlock ∨ ∃ k, v'.ownBlock = some k ∧ w1.heap.size ≤ k) → K v' w') : PApp Tryd.prog 22 22 v (.slice (some ⟨w.heap.size, 0, none⟩) 1 1) w1 K := by
  refine papp1k el_int hw hown rfl hB (by omega) (by omega) ?_
  intro v' w' ho hf hkin
  refine hk v' w' ?_ hf ?_
  · have e : (xs ++ [x]).length = xs.length + 1 := by simp
    have e2 : (xs ++ [x]).map encI = xs.map encI ++ [.int .i64 x] := by simp [encI]
    unfold OwnI
    rw [e, e2]
    exact ho
  · rcases hkin with ⟨g, cap, rfl, rfl⟩ | ⟨k, h1, h2, _⟩
    · exact .inl rfl
    · exact .inr ⟨k, h1, h2⟩
noncomputable def gv (ps : List (Int × Int)) (i j : Nat) : List Int := (List.range ps.length).map fun x => if x < i then ((nb (ovN ps) x : Nat) : Int) else if x = i then ((nb (ovN ps) x &&& (2 ^ j - 1) : Nat) : Int) else 0
@[simp] theorem gv_len (ps : List (Int × Int)) (i j : Nat) : (gv ps i j).length = ps.length := by simp [gv]
theorem gv_zero (ps : List (Int × Int)) : gv ps 0 0 = List.replicate ps.length 0 := by
  apply List.ext_getElem
  · simp
  · intro x h1 h2
    simp [gv]
theorem gv_step {ps : List (Int × Int)} (h12 : ps.length ≤ 12) {i : Nat} (hi : i < ps.length) : gv ps i ps.length = gv ps (i + 1) 0 := by
  apply List.ext_getElem
  · simp
  · intro x h1 h2
    have hx : x < ps.length := by simpa using h1
    simp only [gv, List.getElem_map, List.getElem_range]
    by_cases e1 : x < i
    · rw [if_pos e1, if_pos (by omega)]
    · rw [if_neg e1]
      by_cases e2 : x = i
      · subst e2
        rw [if_pos rfl, if_pos (by omega)]
        have hV := ovN_VN (by omega) h12
        have := hV.nb_lt x
        rw [ovN_len] at this
        rw [Nat.and_two_pow_sub_one_of_lt_two_pow this]
      · rw [if_neg e2, if_neg (by omega)]
        split <;> simp
theorem and_mask (a j : Nat) : a &&& (2 ^ (j + 1) - 1) = if a.testBit j then (a &&& (2 ^ j - 1)) ||| 2 ^ j else a &&& (2 ^ j - 1) := by
  apply Nat.eq_of_testBit_eq
  intro k
  rw [Nat.testBit_and, Nat.testBit_two_pow_sub_one]
  split
  · rename_i h
    rw [Nat.testBit_or, Nat.testBit_and, Nat.testBit_two_pow_sub_one, two_bit]
    by_cases e : j = k
    · subst e; simp [h]
    · by_cases e2 : k < j
      · simp [e, e2, show k < j + 1 by omega]
      · simp [e, e2, show ¬ k < j + 1 by omega]
  · rename_i h
    rw [Nat.testBit_and, Nat.testBit_two_pow_sub_one]
    by_cases e : j = k
    · subst e
      have : a.testBit j = false := by simpa using h
      simp [this]
    · by_cases e2 : k < j
      · simp [e2, show k < j + 1 by omega]
      · simp [e2, show ¬ k < j + 1 by omega]
theorem gv_no {ps : List (Int × Int)} {i j : Nat} (hb : (nb (ovN ps) i).testBit j = false) : gv ps i (j + 1) = gv ps i j := by
  unfold gv
  refine List.map_congr_left fun x hx => ?_
  by_cases e1 : x < i
  · rw [if_pos e1, if_pos e1]
  · rw [if_neg e1, if_neg e1]
    by_cases e2 : x = i
    · subst e2; rw [if_pos rfl, if_pos rfl, and_mask, hb]; rfl
    · rw [if_neg e2, if_neg e2]
theorem gv_yes {ps : List (Int × Int)} {i j : Nat} (hi : i < ps.length) (hb : (nb (ovN ps) i).testBit j = true) : (gv ps i (j + 1)).map encI = ((gv ps i j).map encI).set i (encI (((nb (ovN ps) i &&& (2 ^ j - 1)) ||| 2 ^ j : Nat) : Int)) := by
  apply List.ext_getElem
  · simp
  · intro x h1 h2
    have hx : x < ps.length := by simpa using h1
    rw [List.getElem_set]
    by_cases e : i = x
    · subst e
      rw [if_pos rfl]
      simp only [gv, List.getElem_map, List.getElem_range]
      rw [if_neg (by omega), if_pos trivial, and_mask, hb]; rfl
    · rw [if_neg e]
      simp only [gv, List.getElem_map, List.getElem_range]
      by_cases e1 : x < i
      · rw [if_pos e1, if_pos e1]
      · rw [if_neg e1, if_neg e1, if_neg (fun h => e h.symm), if_neg (fun h => e h.symm)]
theorem gv_end {ps : List (Int × Int)} : gv ps ps.length 0 = ofN (ovN ps) := by
  apply List.ext_getElem
  · simp
  · intro x h1 h2
    have hx : x < ps.length := by simpa using h1
    rw [ofN_get, nb_get]
    simp only [gv, List.getElem_map, List.getElem_range]
    rw [if_pos hx]
structure FT (w0 w : World) (from_ to : Value) (F T : List Int) : Prop where
  hfr : OwnI w w0.heap.size from_ F
  hto : OwnI w w0.heap.size to T
  len : F.length = T.length
  ok : ∀ i, i < F.length → 0 ≤ gi F i ∧ gi F i ≤ gi T i ∧ gi T i ≤ 40
  sep : ∀ k, from_.ownBlock = some k → to.ownBlock ≠ some k
  gr : Grow w0 w
theorem FT.grow {w0 w w' : World} {a b : Value} {F T : List Int} (h : FT w0 w a b F T) (hg : Grow w w') : FT w0 w' a b F T :=
  ⟨h.hfr.grow hg, h.hto.grow hg, h.len, h.ok, h.sep, h.gr.trans hg⟩
theorem gi_app {l : List Int} {x : Int} {i : Nat} : gi (l ++ [x]) i = if i < l.length then gi l i else if i = l.length then x else 0 := by
  unfold gi
  by_cases h : i < l.length
  · rw [if_pos h]; simp [List.getD, List.getElem?_append_left h]
  · rw [if_neg h]
    by_cases e : i = l.length
    · subst e; simp [List.getD]
    · rw [if_neg e]
      simp [List.getD, List.getElem?_append_right (Nat.le_of_not_lt h)]
      rw [List.getElem?_eq_none (by simp; omega)]
      rfl
/-- A literal of one pair, and its append. -/
def bsApp (P : Program) (t ty : TypeId) (v : Value) (a b : Int) (w : World) (K : Value → World → Prop) : Prop :=
  ∃ u : Value, ∃ w1 : World, (Instr.buildSlice t 1 #[(0, .agg #[.int .i64 a, .int .i64 b])]).run P w = .ok u w1 ∧ PApp P t ty v u w1 K
theorem overlap_c {w : World} {v : Value} {hs : List (Int × Int × Int)} (h : SlR opF w v hs) (hT : Tab w) : Calls Tryd.prog 13 #[v] w (Ret w (.bool true)) := by
  refine f13_calls _ ?_
  have fin : ∀ {w'}, Grow w w' → Calls Tryd.prog 52 #[] w' fun e w'' => ∃ t : Bool, e = .returned (.bool t) ∧ Ret w (.bool true) (.returned (.bool t)) w'' := fun hg => (eliminates_c (hT.grow hg)).mono (by
    rintro e w'' ⟨rfl, g⟩
    exact ⟨_, rfl, rfl, hg.trans g⟩)
  refine (histValid_c h).mono ?_
  rintro e w1 ⟨b, rfl, hb40, g1⟩
  refine ⟨b, rfl, condP_i (fun _ => fin g1) fun hb => ?_⟩
  have h40 : hs.length ≤ 40 := hb40 (by simpa using hb)
  refine h.ln ⟨fun out t w' => ∃ k : Nat, t = k ∧ k ≤ hs.length ∧ Own w' w1.heap.size 67 3 out (hs.take k).length ((hs.take k).flatMap opF) ∧ Grow w1 w', fun _ t _ => hs.length - t.toNat, ⟨0, rfl, by omega, by rw [List.take_zero]; exact Own.nil _ _ _ _, Grow.refl w1⟩, ?_⟩
  rintro - x t w2 ⟨k, rfl, hk, hx, g2⟩
  have g02 := g1.trans g2
  refine condD (fun hlt => ?_) (fun hge => ?_)
  · have hkl : k < hs.length := by omega
    refine (h.grow g02).rd opF_len rfl hkl fun w3 hw3 => ?_
    refine setR (cs := opF _) hw3 rfl (opF_one _) fun w4 g4 _ c4 => ⟨_, c4 0 _ rfl, _, c4 1 _ rfl, _, c4 2 _ rfl, bs1 el_hist (by omega) (by omega) (by rfl) w4 fun w5 hw5 => ?_⟩
    refine pappR el_hist (by omega) opF_len opF_one (x := hs[k]) hw5 (hx.grow g4) (by have := (g2.trans g4).size; omega) (by simp; omega) (by omega) fun v' w6 ho6 hf6 => ?_
    refine ⟨by unfold inR; omega, ⟨k + 1, by omega, by omega, by rw [take_next hkl]; exact ho6, ?_⟩, by dsimp only; omega⟩
    refine ((g2.trans g4).trans (alloc_grow hw5)).fr hf6 fun i hi e => ?_
    have := (Own.lt (hx.grow g4) e.symm).1
    omega
  have hkl : k = hs.length := by omega
  subst hkl
  rw [List.take_length] at hx
  have hxs : SlR opF w2 x hs := Own.slR hx
  intro w3 hw3
  have g3 := alloc_grow hw3
  have s3 := alloc_size hw3
  have hb3 := Box.new hw3
  refine ⟨⟨_, hb3.cell⟩, hb3.free, fun w4 hw4 => ?_⟩
  have hb4 := hb3.set hw4
  have f4 := set_fr hw4
  have g24 : Grow w2 w4 := g3.fr f4 fun i hi e => absurd (show i = w2.heap.size from e) (by omega)
  have s4 : w4.heap.size = w2.heap.size + 1 := by have := f4.size; subst hw4; simp; omega
  refine ⟨fun a b set w' => ∃ (k bs : Nat) (F T : List Int), set = ⟨bs, 0, none⟩ ∧ 1 ≤ k ∧ k ≤ 7 ∧ Box w' bs (.int .i64 (k : Int)) ∧ w2.heap.size ≤ bs ∧ FT w2 w' a b F T ∧ F.length ≤ k - 1 ∧ a.ownBlock ≠ some bs ∧ b.ownBlock ≠ some bs,
    fun _ _ set w' => 8 - (match w'.cell? set with | some (.int .i64 k) => k.toNat | _ => 0), ⟨1, w2.heap.size, [], [], rfl, by omega, by omega, hb4, Nat.le_refl _, ⟨Own.nil _ _ _ _, Own.nil _ _ _ _, rfl, fun i hi => by simp at hi, fun k hk => by simp [Value.ownBlock] at hk, g24⟩, by simp, by simp [Value.ownBlock], by simp [Value.ownBlock]⟩, ?_⟩
  rintro - fr to set w5 ⟨k, bs, F, T, rfl, hk1, hk7, hb5, hbs, hft, hFk, hn1, hn2⟩
  refine ⟨_, hb5.cell, condD (fun hle => ⟨_, hb5.cell, ?_⟩) fun hgt => ?_⟩
  · -- one transaction
    have g25 := hft.gr
    refine (idxHist_c (o := ((k : Int), 2, 0)) (hxs.grow g25)).mono ?_
    rintro e w6 ⟨r, rfl, hr, g6⟩
    have next : ∀ {w' : World} {a' b' : Value} {F' T' : List Int}, FT w2 w' a' b' F' T' → F'.length ≤ k → ∀ w'', Grow w' w'' → Box w'' w'.heap.size (.int .i64 ((k : Int) + 1)) →
        (∃ (k' bs' : Nat) (F T : List Int), (⟨w'.heap.size, 0, none⟩ : Addr) = ⟨bs', 0, none⟩ ∧ 1 ≤ k' ∧ k' ≤ 7 ∧ Box w'' bs' (.int .i64 (k' : Int)) ∧ w2.heap.size ≤ bs' ∧ FT w2 w'' a' b' F T ∧ F.length ≤ k' - 1 ∧ a'.ownBlock ≠ some bs' ∧ b'.ownBlock ≠ some bs') ∧
        8 - (match w''.cell? ⟨w'.heap.size, 0, none⟩ with | some (.int .i64 k) => k.toNat | _ => 0) < 8 - (match w5.cell? ⟨bs, 0, none⟩ with | some (.int .i64 k) => k.toNat | _ => 0) := fun {w' a' b' F' T'} hft' hl w'' g'' hb'' => by
      refine ⟨⟨k + 1, w'.heap.size, F', T', rfl, by omega, by omega, by simpa using hb'', hft'.gr.size, hft'.grow g'', by omega, fun e => by have := (hft'.hfr.lt e).2; omega, fun e => by have := (hft'.hto.lt e).2; omega⟩, ?_⟩
      rw [hb''.cell, hb5.cell]
      simp only
      omega
    have inr : inR ((k : Int) + 1) := by unfold inR; omega
    refine ⟨r, rfl, condD (fun _ => inc (hb5.grow g6).cell inr (next (hft.grow g6) (by omega))) fun hr0 => ?_⟩
    obtain ⟨c, rfl, hc⟩ := hr (by omega)
    obtain ⟨hcl, hce⟩ := List.getElem?_eq_some_iff.1 hc
    refine (idxTxn_c (t := (k : Int)) (hxs.grow (g25.trans g6)) (hb5.grow g6).cell hcl (by rw [hce])).mono ?_
    rintro e w7 ⟨r', rfl, hrc, g7⟩
    refine ⟨_, rfl, fun w8 hw8 => ?_⟩
    have g57 := g6.trans g7
    have hft7 := hft.grow g57
    have g8 := alloc_grow hw8
    refine pappK hw8 hft7.hfr hft7.gr.size (by omega) fun a' w9 ha' hfa hka w10 hw10 => ?_
    have hto8 := hft7.hto.grow g8
    have hto9 : OwnI w9 w2.heap.size to T := Own.fr hto8 hfa fun j hj e => hft.sep j e.symm hj
    have g28 := hft7.gr.trans g8
    have g29 : Grow w2 w9 := g28.fr hfa fun i hi e => by have := (hft7.hfr.lt e.symm).1; omega
    have s10 := alloc_size hw10
    have g10 := alloc_grow hw10
    refine pappK hw10 hto9 g29.size (by have := hft.len; omega) fun b' w11 hb' hfb hkb => ?_
    have s8 := alloc_size hw8
    have hlt9 : ∀ {j}, to.ownBlock = some j → j < w7.heap.size := fun hj => (hft7.hto.lt hj).2
    have sepa : ∀ j, a'.ownBlock = some j → to.ownBlock ≠ some j := fun j hj hj2 => by
      rcases hka with e | ⟨q, e, hq⟩
      · exact hft.sep j (e ▸ hj) hj2
      · rw [e] at hj
        have := hlt9 hj2
        simp at hj; omega
    have ha11 : OwnI w11 w2.heap.size a' (F ++ [(r' : Int)]) := Own.fr (ha'.grow g10) hfb fun j hj e => sepa j hj e.symm
    have g211 : Grow w2 w11 := (g29.trans g10).fr hfb fun i hi e => by have := (hto9.lt e.symm).1; omega
    have hft11 : FT w2 w11 a' b' (F ++ [(r' : Int)]) (T ++ [(c : Int)]) := by
      refine ⟨ha11, hb', by simp [hft.len], fun i hi => ?_, fun j hj hj2 => ?_, g211⟩
      · rw [gi_app, gi_app, ← hft.len]
        by_cases e : i < F.length
        · rw [if_pos e, if_pos e]; exact hft.ok i e
        · have : i = F.length := by simp at hi; omega
          rw [if_neg e, if_neg e, if_pos this, if_pos this]
          omega
      · rcases hkb with e | ⟨q, e, hq⟩
        · exact sepa j hj (e ▸ hj2)
        · rw [e] at hj2
          have := (ha'.lt hj).2
          simp at hj2; omega
    have hbs7 := (hb5.grow g57).lt
    have hbox : Box w11 bs (.int .i64 (k : Int)) := by
      have h9 := (hb5.grow (g57.trans g8)).fr hfa fun e => hn1 e.symm
      exact (h9.grow g10).fr hfb fun e => hn2 e.symm
    exact inc hbox.cell inr (next hft11 (by simp; omega))
  · -- the graph
    have hk : k = 7 := by omega
    subst hk
    have g25 := hft.gr
    have g05 := g02.trans g25
    refine hft.hfr.slI.ln (condD (fun _ => fin g05) fun hne => hft.hfr.slI.ln ?_)
    have hF6 : F.length ≤ 6 := by omega
    refine ⟨⟨by omega, by omega, by omega, by omega⟩, fun w6 hw6 => hft.hfr.slI.ln ?_⟩
    simp only [Int.toNat_natCast] at hw6 ⊢
    have g6 := alloc_grow hw6
    have s6 := alloc_size hw6
    obtain ⟨ps, hps⟩ : ∃ ps : List (Int × Int), ps = (List.range F.length).map fun i => (gi F i, gi T i) := ⟨_, rfl⟩
    have hlen : ps.length = F.length := by simp [hps]
    have hgp : ∀ i, i < F.length → gp ps i = (gi F i, gi T i) := fun i hi => by
      rw [← gp_get (by omega)]; simp [hps]
    have h12 : ps.length ≤ 12 := by omega
    have hok : ∀ i, i < ps.length → okP (gp ps i) := fun i hi => by
      have hiF : i < F.length := by rw [← hlen]; exact hi
      have h3 := hft.ok i hiF
      rw [hgp i hiF]
      exact ⟨h3.1, h3.2.1, by simp only; omega⟩
    have hg6 : OwnI w6 w5.heap.size (.slice (some ⟨w5.heap.size, 0, none⟩) F.length F.length) (gv ps 0 0) := by
      have := Own.made (B := w5.heap.size) (n := F.length) hw6 (by simp) (Nat.le_refl _) (by omega)
      unfold OwnI
      rw [gv_len, hlen, gv_zero, hlen]
      simpa [encI] using this
    have hg7 : ∀ {i j w'}, OwnI w' w5.heap.size (.slice (some ⟨w5.heap.size, 0, none⟩) F.length F.length) (gv ps i j) → Own w' w5.heap.size 3 1 (.slice (some ⟨w5.heap.size, 0, none⟩) F.length F.length) F.length ((gv ps i j).map encI) := fun h => by
      unfold OwnI at h
      rwa [gv_len, hlen] at h
    refine ⟨fun sp t w' => ∃ i : Nat, t = i ∧ i ≤ F.length ∧ Own w' w6.heap.size 72 2 sp (ps.take i).length ((ps.take i).flatMap spF) ∧ OwnI w' w5.heap.size (.slice (some ⟨w5.heap.size, 0, none⟩) F.length F.length) (gv ps i 0) ∧ Grow w5 w',
      fun _ t _ => F.length - t.toNat, ⟨0, rfl, by omega, by rw [List.take_zero]; exact Own.nil _ _ _ _, hg6, g6⟩, ?_⟩
    rintro - sp t w7 ⟨i, rfl, hi, hsp, hg, g57⟩
    refine condD (fun hlt => ?_) (fun hge => ?_)
    · have hil : i < F.length := by omega
      have hilp : i < ps.length := by omega
      have hFi : ∀ {w'}, Grow w5 w' → SlI w' fr F := fun g' => hft.hfr.slI.grow g'
      have hTi : ∀ {w'}, Grow w5 w' → SlI w' to T := fun g' => hft.hto.slI.grow g'
      have hTl : i < T.length := by rw [← hft.len]; exact hil
      have hpi : ps[i] = (gi F i, gi T i) := by rw [gp_get hilp, hgp i hil]
      refine ⟨fun sp' w' => Own w' w6.heap.size 72 2 sp' (ps.take (i + 1)).length ((ps.take (i + 1)).flatMap spF) ∧ OwnI w' w5.heap.size (.slice (some ⟨w5.heap.size, 0, none⟩) F.length F.length) (gv ps i 0) ∧ Grow w5 w', fun m => ?_, ?_⟩
      · have g58 := g57.dr m
        have app : ∀ {K : Prop}, K → K := fun h => h
        have put : bsApp Tryd.prog 39 39 sp (gi F i) (gi T i) (VC.dr w7 m) (fun sp' w' => Own w' w6.heap.size 72 2 sp' (ps.take (i + 1)).length ((ps.take (i + 1)).flatMap spF) ∧ OwnI w' w5.heap.size (.slice (some ⟨w5.heap.size, 0, none⟩) F.length F.length) (gv ps i 0) ∧ Grow w5 w') := by
          refine bs1 el_cspan (by omega) (by omega) (by rfl) (VC.dr w7 m) fun w9 hw9 => ?_
          have hsp8 := Own.dr hsp m
          refine pappR el_cspan (by omega) spF_len spF_one (x := (gi F i, gi T i)) hw9 hsp8 (by have := (Own.lt (hg7 hg) (k := w5.heap.size) rfl).2; show w6.heap.size ≤ w7.heap.size; omega) (by simp; omega) (by omega) fun v' w10 ho10 hf10 => ?_
          refine ⟨by rw [take_next hilp, hpi]; exact ho10, ?_, ?_⟩
          · refine Own.fr ((Own.dr hg m).grow (alloc_grow hw9)) hf10 fun j hj e => ?_
            have h1 := (Own.lt hsp8 e.symm).1
            have h2 : w5.heap.size = j := by simpa [Value.ownBlock] using hj
            omega
          · refine (g58.trans (alloc_grow hw9)).fr hf10 fun j hj e => ?_
            have h1 := (Own.lt hsp8 e.symm).1
            omega
        obtain ⟨a1, n1, c1, e1, b1, x1, hx1, rfl⟩ := (hFi g58).rd (j := (i : Int)) rfl hil (K := fun z => z = gi F i) (gi_get hil)
        obtain ⟨a2, n2, c2, e2, b2, x2, hx2, rfl⟩ := (hTi g58).rd (j := (i : Int)) rfl hTl (K := fun z => z = gi T i) (gi_get hTl)
        exact ⟨a1, n1, c1, e1, b1, a2, n2, c2, e2, b2, ⟨_, hx1, _, hx2, put⟩, ⟨_, hx2, _, hx1, put⟩⟩
      · rintro - sp' w8 ⟨hsp', hg', g58⟩
        refine (hFi g58).ln ⟨fun t w' => ∃ j : Nat, t = j ∧ j ≤ F.length ∧ OwnI w' w5.heap.size (.slice (some ⟨w5.heap.size, 0, none⟩) F.length F.length) (gv ps i j) ∧ Own w' w6.heap.size 72 2 sp' (ps.take (i + 1)).length ((ps.take (i + 1)).flatMap spF) ∧ Grow w5 w', fun t _ => F.length - t.toNat, ⟨0, rfl, by omega, hg', hsp', g58⟩, ?_⟩
        rintro - t w9 ⟨j, rfl, hj, hg9, hsp9, g59⟩
        refine condD (fun hlt2 => ?_) (fun hge2 => ?_)
        · have hjl : j < F.length := by omega
          have hTj : j < T.length := by rw [← hft.len]; exact hjl
          have hbit : (nb (ovN ps) i).testBit j = ovl ps i j := by
            rw [Bool.eq_iff_iff, nb_ov h12 hilp]
            exact ⟨fun h => h.2, fun h => ⟨by omega, h⟩⟩
          have skip : ∀ m, ovl ps i j = false → inR ((j : Int) + 1) ∧ (∃ j' : Nat, (j : Int) + 1 = j' ∧ j' ≤ F.length ∧ OwnI (VC.dr w9 m) w5.heap.size (.slice (some ⟨w5.heap.size, 0, none⟩) F.length F.length) (gv ps i j') ∧ Own (VC.dr w9 m) w6.heap.size 72 2 sp' (ps.take (i + 1)).length ((ps.take (i + 1)).flatMap spF) ∧ Grow w5 (VC.dr w9 m)) ∧ F.length - Int.toNat ((j : Int) + 1) < F.length - Int.toNat (j : Int) := fun m ho =>
            ⟨by unfold inR; omega, ⟨j + 1, by omega, by omega, by rw [gv_no (by rw [hbit, ho])]; exact Own.dr hg9 m, Own.dr hsp9 m, g59.dr m⟩, by omega⟩
          have ov : ovl ps i j = (decide (i ≠ j) && decide (gi F i ≤ gi T j) && decide (gi F j ≤ gi T i)) := by unfold ovl; rw [hgp i hil, hgp j hjl]
          refine condP_i (fun hne2 => ?_) (fun heq => fun m => skip m ?_)
          · have hij : i ≠ j := fun e => by subst e; simp at hne2
            refine (hFi g59).rd rfl hil ((hTi g59).rd rfl hTj ?_)
            rw [gi_get hil, gi_get hTj]
            refine condD (fun h1 => (hFi g59).rd rfl hjl ((hTi g59).rd rfl hTl ?_)) (fun h1 m => skip m (by rw [ov]; simp [h1]))
            rw [gi_get hjl, gi_get hTl]
            intro m
            refine condD (fun h2 m2 => ?_) (fun h2 => skip m (by rw [ov]; simp [h2]))
            have hb1 : (nb (ovN ps) i).testBit j = true := by rw [hbit, ov]; simp [hij, h1, h2]
            have hgd := Own.dr (Own.dr hg9 m) m2
            have hgl : i < (gv ps i j).length := by rw [gv_len]; exact hilp
            have hold : (gv ps i j)[i] = ((nb (ovN ps) i &&& (2 ^ j - 1) : Nat) : Int) := by
              simp only [gv, List.getElem_map, List.getElem_range]
              rw [if_neg (by omega)]
              simp
            have hcell : (VC.dr (VC.dr w9 m) m2).cell? ⟨w5.heap.size, i, none⟩ = some (.int .i64 ((nb (ovN ps) i &&& (2 ^ j - 1) : Nat) : Int)) := by
              have := World.ownsRow.cells (g := w5.heap.size) (hg7 hgd) rfl i (encI ((nb (ovN ps) i &&& (2 ^ j - 1) : Nat) : Int)) (by rw [List.getElem?_map, List.getElem?_eq_getElem hgl, hold]; rfl)
              rwa [Addr.add0] at this
            have hpl : (⟨w5.heap.size, 0, none⟩ : Addr).add (Int.toNat (i : Int) * 1) = ⟨w5.heap.size, i, none⟩ := by rw [Int.toNat_natCast, Nat.mul_one, Addr.add0]
            refine ⟨⟨w5.heap.size, 0, none⟩, F.length, F.length, rfl, ⟨by omega, by omega⟩, by omega, _, by rw [hpl]; exact hcell, ⟨w5.heap.size, 0, none⟩, F.length, F.length, rfl, ⟨by omega, by omega⟩, ?_⟩
            rw [hpl]
            refine ⟨⟨_, hcell⟩, (Own.wr (hg7 hgd) hil).2, fun w10 hw10 => ?_⟩
            have hV := ovN_VN (by omega) h12
            have hnb4 := hV.nb_lt' i
            have hsm : nb (ovN ps) i &&& (2 ^ j - 1) < 4096 := Nat.lt_of_le_of_lt Nat.and_le_left hnb4
            rw [iShl_one (by omega), iOr_nat (by omega) (p2 (by omega))] at hw10
            have hset := Own.set (hg7 hgd) hil hw10
            have hst : OwnI w10 w5.heap.size (.slice (some ⟨w5.heap.size, 0, none⟩) F.length F.length) (gv ps i (j + 1)) := by
              unfold OwnI
              rw [gv_len, hlen, gv_yes hilp hb1]
              exact hset
            have f10 := set_fr hw10
            refine ⟨by unfold inR; omega, ⟨j + 1, by omega, by omega, hst, ?_, ?_⟩, by dsimp only; omega⟩
            · exact Own.fr (Own.dr (Own.dr hsp9 m) m2) f10 fun q hq e => by
                have h1 := (Own.lt hsp9 hq).1
                have h2 : q = w5.heap.size := e
                omega
            · exact ((g59.dr m).dr m2).fr f10 fun q hq e => by
                have h2 : q = w5.heap.size := e
                omega
          · have : i = j := by simp at heq; omega
            rw [ov]; simp [this]
        · have : j = F.length := by omega
          subst this
          refine ⟨by unfold inR; omega, ⟨i + 1, by omega, by omega, hsp9, ?_, g59⟩, by dsimp only; omega⟩
          rw [← gv_step h12 hilp, hlen]
          exact hg9
    · have hiF : i = F.length := by omega
      subst hiF
      have g07 := g05.trans g57
      have hgs : SlI w7 (.slice (some ⟨w5.heap.size, 0, none⟩) F.length F.length) (ofN (ovN ps)) := by
        have := OwnI.slI hg
        have e : gv ps F.length 0 = ofN (ovN ps) := by rw [← hlen]; exact gv_end
        rwa [e] at this
      rw [← hlen, List.take_length] at hsp
      have hsps : SlP w7 sp ps := Own.slC hsp
      have hV : VN (ovN ps) := ovN_VN (by
        have : ¬ F.length = 0 := fun e => hne (by omega)
        omega) h12
      have hmd := ovN_mdp h12 hok
      have hgood := hmd.good hV
      obtain ⟨ho, ha⟩ := (good_iff hV).1 hgood
      have hmod : modE (ovN ps) = 0 := by unfold modE; rw [ho, ha]; rfl
      refine (Order_c hgs hV (hT.grow g07)).mono ?_
      rintro e w8 ⟨o8, rfl, -, g8⟩
      rw [ho]
      refine ⟨_, _, rfl, (Apart_c (hgs.grow g8) hV (hT.grow (g07.trans g8))).mono ?_⟩
      rintro e w9 ⟨rfl, g9⟩
      have g79 := g8.trans g9
      rw [ha]
      refine ⟨_, _, rfl, fun w10 hw10 => ?_⟩
      have ev : atA none = [Value.int .i64 ((0 : Nat) : Int), .int .i64 ((0 : Nat) : Int), .int .i64 ((0 : Nat) : Int)].toArray := rfl
      rw [ev]
      refine setR (cs := [Value.int .i64 ((0 : Nat) : Int), .int .i64 ((0 : Nat) : Int), .int .i64 ((0 : Nat) : Int)]) hw10 rfl (one3 _ _ _) fun w11 g11 _ _ => ?_
      have g711 := g79.trans g11
      refine (Model_any (hgs.grow g711) hV (hT.grow (g07.trans g711))).mono ?_
      rintro e w12 ⟨m, rfl, hm, -, g12⟩
      rw [hmod]
      have g712 := g711.trans g12
      refine ⟨_, _, rfl, (checkModel_c (b := true) (hgs.grow g712) (SlC.grow hsps g712) hV (by simp [hmd])).mono ?_⟩
      rintro e w13 ⟨rfl, g13⟩
      have g713 := g712.trans g13
      refine ⟨_, _, rfl, (checkModel_c (b := true) (hgs.grow g713) (SlC.grow (hm hmod) g13) hV (by simp [spansOf_mdp hV hgood])).mono ?_⟩
      rintro e w14 ⟨rfl, g14⟩
      exact ⟨_, _, rfl, cT (by simp) (cT (by simp) (cT (by simp) (cT rfl (cT rfl (cT rfl (cT rfl (fin ((g07.trans g713).trans g14))))))))⟩
end Go.Proofs.YtmpjanpmkmlloaaDoor
