/- Contracts: the reference's facts that matches use; equal lists of facts. No condition. -/
import Derived.Test.YtjkphmbjdleppaaMu
namespace Go.Proofs.Ytjkphmbjdleppaa
open Go Go.RowKit VC
set_option linter.unusedSimpArgs false
set_option linter.unusedVariables false

/-! ## Equal lists of facts -/
theorem same1_c {w : World} {r s : Int} {t u : Value} {xs ys : List Int} (ht : SlI w t xs) (hu : SlI w u ys) : Calls Try.prog 62 #[.agg #[.int .i64 r, t], .agg #[.int .i64 s, u]] w (Ret w (.bool (decide (((r, xs) : Atm) = (s, ys))))) := by
  refine f62_calls _ _ ?_
  refine ⟨_, rfl, fun w1 hw1 => ⟨_, rfl, fun w3 hw3 => ?_⟩⟩
  have g1 := alloc_grow hw1
  have g3 := alloc_grow hw3
  have g03 := g1.trans g3
  refine ⟨r, g3.cell (boxc hw1 0 _ rfl), s, boxc hw3 0 _ rfl, condD (fun h => ?_) fun h => ⟨?_, g03⟩⟩
  · refine ⟨t, g3.cell (boxc hw1 1 _ rfl), u, boxc hw3 1 _ rfl, (equal_c (ht.grow g03) (hu.grow g03)).mono ?_⟩
    rintro e w2 ⟨rfl, g2⟩
    refine ⟨_, rfl, ?_, g03.trans g2⟩
    congr 2
    rw [decide_eq_decide, Prod.mk.injEq]
    exact ⟨fun e => ⟨h, e⟩, fun e => e.2⟩
  · congr 2
    symm
    rw [decide_eq_false_iff_not, Prod.mk.injEq]
    exact fun e => h e.1
theorem same_c {w : World} {u v : Value} {L M : List Atm} (hx : SlA w u L) (hy : SlA w v M) : Calls Try.prog 30 #[u, v] w (Ret w (.bool (decide (L = M)))) := by
  refine f30_calls _ _ ?_
  have main : Calls Try.prog 61 #[u, v, .func (.func 62) #[] #[]] w (Ret w (.bool (decide (L = M)))) := by
    refine f61_calls _ _ _ ?_
    have h1 := SlX.len_le hx
    have h2 := SlX.len_le hy
    refine SlX.ln hx (SlX.ln hy (condP_i (fun h => ?_) fun h => ?_))
    · refine ⟨?_, Grow.refl w⟩
      have : L ≠ M := fun e => by subst e; simp at h
      rw [decide_eq_false this]
    have hl : L.length = M.length := by simp at h; omega
    refine SlX.ln hx ⟨fun t w' => ∃ k : Nat, t = k ∧ k ≤ L.length ∧ Grow w w' ∧ L.take k = M.take k, fun t _ => L.length - t.toNat, ⟨0, rfl, by omega, Grow.refl w, by simp⟩, ?_⟩
    rintro - t w1 ⟨k, rfl, hk, hw, htk⟩
    refine condD (fun hlt => ?_) (fun hge => ?_)
    · have hkl : k < L.length := by omega
      have hkm : k < M.length := by omega
      refine SlX.loc (hx.gr hw) rfl hkl rfl fun w20 a g20 s20 ha c0 c1 => ?_
      have hw20 := hw.trans g20
      refine SlX.loc (hy.gr hw20) rfl hkm rfl fun w27 c g27 s27 hc d0 d1 => ?_
      refine ⟨[_, _], rfl, two (g27.cell c0) (g27.cell c1), [_, _], rfl, two d0 d1, _, _, _, rfl, by kernel_rfl, ?_⟩
      rw [app2]
      refine (same1_c (r := L[k].1) (s := M[k].1) (ha.grow g27) hc).mono ?_
      rintro e w2 ⟨rfl, g2⟩
      have hw2 := (hw20.trans g27).trans g2
      refine ⟨_, rfl, condP_i (fun h => ?_) fun h => ?_⟩
      · have h : ¬ L[k] = M[k] := by rw [Bool.not_eq_true'] at h; exact of_decide_eq_false h
        refine ⟨?_, hw2⟩
        have : L ≠ M := fun e => h (by subst e; rfl)
        rw [decide_eq_false this]
      · have he : L[k] = M[k] := by rw [Bool.not_eq_false'] at h; exact of_decide_eq_true h
        refine ⟨by unfold inR; omega, ⟨k + 1, by omega, by omega, hw2, ?_⟩, by dsimp only; omega⟩
        rw [List.take_succ_eq_append_getElem hkl, List.take_succ_eq_append_getElem hkm, htk, he]
    · refine ⟨?_, hw⟩
      have : k = L.length := by omega
      subst this
      rw [List.take_length, hl, List.take_length] at htk
      rw [decide_eq_true htk]
  refine main.mono ?_
  rintro e w' ⟨rfl, g⟩
  exact ⟨_, rfl, rfl, g⟩
theorem sameAll_c {w : World} {u v : Value} {L M : List (List Atm)} (hx : SlF w u L) (hy : SlF w v M) : Calls Try.prog 29 #[u, v, .func (.func 30) #[] #[]] w (Ret w (.bool (decide (L = M)))) := by
  refine f29_calls _ _ _ ?_
  have h1 := SlX.len_le hx
  have h2 := SlX.len_le hy
  refine SlX.ln hx (SlX.ln hy (condP_i (fun h => ?_) fun h => ?_))
  · refine ⟨?_, Grow.refl w⟩
    have : L ≠ M := fun e => by subst e; simp at h
    rw [decide_eq_false this]
  have hl : L.length = M.length := by simp at h; omega
  refine SlX.ln hx ⟨fun t w' => ∃ k : Nat, t = k ∧ k ≤ L.length ∧ Grow w w' ∧ L.take k = M.take k, fun t _ => L.length - t.toNat, ⟨0, rfl, by omega, Grow.refl w, by simp⟩, ?_⟩
  rintro - t w1 ⟨k, rfl, hk, hw, htk⟩
  refine condD (fun hlt => ?_) (fun hge => ?_)
  · have hkl : k < L.length := by omega
    have hkm : k < M.length := by omega
    refine SlF.rd1 (hx.gr hw) rfl hkl fun a ha => SlF.rd1 (hy.gr hw) rfl hkm fun c hc => ⟨_, _, _, rfl, by kernel_rfl, ?_⟩
    rw [app2]
    refine (same_c ha hc).mono ?_
    rintro e w2 ⟨rfl, g2⟩
    refine ⟨_, rfl, condP_i (fun h => ?_) fun h => ?_⟩
    · have h : ¬ L[k] = M[k] := by simpa using h
      refine ⟨?_, hw.trans g2⟩
      have : L ≠ M := fun e => h (by subst e; rfl)
      rw [decide_eq_false this]
    · have he : L[k] = M[k] := by simpa using h
      refine ⟨by unfold inR; omega, ⟨k + 1, by omega, by omega, hw.trans g2, ?_⟩, by dsimp only; omega⟩
      rw [List.take_succ_eq_append_getElem hkl, List.take_succ_eq_append_getElem hkm, htk, he]
  · refine ⟨?_, hw⟩
    have : k = L.length := by omega
    subst this
    rw [List.take_length, hl, List.take_length] at htk
    rw [decide_eq_true htk]
/-! ## The reference -/
theorem SlI.fromQ {Q : World → Prop} {w : World} {v : Value} {xs : List Int} (hw : Q w) (h : ∀ w', Q w' → SlI w' v xs) {i : Nat} {ik : IntKind} {z : Int} (hz : z = (i : Int)) (hi : i ≤ xs.length) {K : Value → Prop} (hk : ∀ v', (∀ w', Q w' → SlI w' v' (xs.drop i)) → K v') :
    ∃ (a : Option Addr) (n c : Nat), v = .slice a n c ∧ ∃ l hh m : Nat, sbR (some (.int ik z)) none none n c l hh m ∧ K (.slice (if m = l then a else a.map (·.add (l * 1))) (hh - l) (m - l)) := by
  subst hz
  obtain ⟨a, c, rfl, h1, h2, h3, -⟩ := (h w hw).ex
  have hl : (xs.drop i).length = xs.length - i := by simp
  refine ⟨a, _, c, rfl, i, xs.length, c, ⟨rfl, rfl, rfl, by simp, by omega, by omega, by omega⟩, hk _ fun w' hw' => ?_⟩
  obtain ⟨a', c', e, -, -, -, h4⟩ := (h w' hw').ex
  simp only [Value.slice.injEq, true_and] at e
  obtain ⟨rfl, rfl⟩ := e
  unfold SlI
  rw [hl]
  refine ⟨if c = i then a else a.map (·.add (i * 1)), c - i, rfl, by omega, by omega, ?_, fun j u hj => ?_⟩
  · intro hn
    split at hn
    · rename_i hc; omega
    · have : a = none := by cases a <;> simp at hn ⊢
      have := h3 this; omega
  · have hj2 : (xs.map VC.encI)[i + j]? = some u := by
      rw [List.map_drop, List.getElem?_drop] at hj
      exact hj
    have hlt := (List.getElem?_eq_some_iff.1 hj2).1
    simp at hlt
    obtain ⟨b, rfl, hc⟩ := h4 (i + j) u hj2
    refine ⟨b.add (i * 1), ?_, ?_⟩
    · rw [if_neg (by omega)]; rfl
    · rw [add_add, Nat.mul_one]; exact hc
theorem fold_sm {fs : List Atm} (hf : ∀ f ∈ fs, ∀ y ∈ f.2, 1 ≤ y ∧ y ≤ 99) : ∀ (b : List Atm) (ms : List Vals), (∀ m ∈ ms, Sm m) → ∀ n ∈ b.foldl (stepM fs) ms, Sm n
  | [], ms, h, n, hn => h n hn
  | a :: r, ms, h, n, hn => fold_sm hf r (stepM fs ms a) (fun n hn => by
      unfold stepM at hn
      simp only [List.mem_flatMap, List.mem_filterMap] at hn
      obtain ⟨m, hm, f, hff, hfit⟩ := hn
      unfold fitA at hfit
      split at hfit
      · exact fitL_sm (h m hm) (hf f hff) hfit
      · cases hfit) n hn
theorem okF_99 {l : List Atm} (h : okFs l = true) : ∀ f ∈ srtF l, ∀ y ∈ f.2, 1 ≤ y ∧ y ≤ 99 := fun f hf => by
  simp only [okFs, Bool.and_eq_true, List.all_eq_true] at h
  exact (okF_iff.1 (h.2 f ((mem_srt key_A).1 hf))).2.2.2.2
theorem sm_zero : Sm zeroV := by
  intro x hx
  simp [zeroV] at hx
  omega
theorem runF_sm {l b : List Atm} {ms : List Vals} (hf : okFs l = true) (h : runF l b = some ms) : ∀ m ∈ ms, Sm m := by
  rw [(runF_some.1 h).1]
  exact fold_sm (okF_99 hf) b [zeroV] fun m hm => by
    obtain rfl : m = zeroV := by simpa using hm
    exact sm_zero
theorem sm_get {m : Vals} (h : Sm m) (i : Nat) : 0 ≤ m.getD i 0 ∧ m.getD i 0 ≤ 99 := by
  rw [List.getD]
  cases e : m[i]? with
  | none => simp
  | some y => exact h y (List.mem_of_getElem? e)
/-- Facts as an element that reads as long as of what was there nothing but S turns. -/
def repFS (S : Nat → Prop) (w : World) (cs : List Value) (l : List Atm) : Prop := ∀ w', Fr S w w' → repF w' cs l
theorem srt_keys (l : List Atm) : srtL (l.map keyA) = (srtF l).map keyA := by
  refine str_uniq (str_srt key_id _) (str_map (str_srt key_A l)) fun x => ?_
  rw [mem_srt key_id, List.mem_map, List.mem_map]
  constructor
  · rintro ⟨a, ha, rfl⟩
    exact ⟨a, (mem_srt key_A).2 ha, rfl⟩
  · rintro ⟨a, ha, rfl⟩
    exact ⟨a, (mem_srt key_A).1 ha, rfl⟩
theorem refReduce_c {w : World} {hv bv fv : Value} {h : List Int} {b l : List Atm} (hh : SlI w hv h) (hb : SlA w bv b) (hl : SlA w fv l) : Calls Try.prog 28 #[.agg #[hv, bv], fv] w fun e w' => ∃ v, e = .returned (.tuple #[v, .int .i64 (redO h b l).1]) ∧ SlF w' v (redO h b l).2 ∧ Grow w w' := by
  refine f28_calls _ _ ?_
  refine ⟨_, rfl, fun w1 hw1 => ?_⟩
  have g1 := alloc_grow hw1
  refine ⟨[_, _], rfl, two (boxc hw1 0 _ rfl) (boxc hw1 1 _ rfl), (refValid_c (hh.grow g1) (hb.gr g1)).mono ?_⟩
  rintro e w4 ⟨rfl, g4⟩
  have g04 := g1.trans g4
  refine ⟨_, rfl, condP_i (fun h1 => ?_) fun h1 => ?_⟩
  · have h1 : okQ h b = false := by simpa using h1
    have e1 : redO h b l = (2, []) := by simp [redO, askO, h1]
    rw [e1]
    exact ⟨_, rfl, SlX.nil _, g04⟩
  have h1 : okQ h b = true := by simpa using h1
  refine (refFacts_c (hl.gr g04)).mono ?_
  rintro e w7 ⟨rfl, g7⟩
  have g07 := g04.trans g7
  refine ⟨_, rfl, condP_i (fun h2 => ?_) fun h2 => ?_⟩
  · have h2 : okFs l = false := by simpa using h2
    have e1 : redO h b l = (2, []) := by simp [redO, askO, h1, h2]
    rw [e1]
    exact ⟨_, rfl, SlX.nil _, g07⟩
  have h2 : okFs l = true := by simpa using h2
  refine ⟨[_, _], rfl, two ((g4.trans g7).cell (boxc hw1 0 _ rfl)) ((g4.trans g7).cell (boxc hw1 1 _ rfl)), (refMatches_c (hb.gr g07) (hl.gr g07) (okB_term h1) (by have := okQ_len h1; omega) h2).mono ?_⟩
  rintro e w11 ⟨g11, ⟨v, ms, rfl, hr, hs⟩ | ⟨rfl, hr⟩⟩
  rotate_left
  · have e1 : redO h b l = (3, []) := by simp [redO, askO, h1, h2, hr]
    rw [e1]
    exact ⟨_, _, rfl, cT rfl ⟨_, rfl, SlX.nil _, g07.trans g11⟩⟩
  have e1 : redO h b l = (0, redL b ms) := by simp [redO, askO, h1, h2, hr]
  rw [e1]
  have hml := runF_len hr (okQ_len h1).1
  have hbl := okQ_len h1
  have hT := okB_term h1
  have oA : ∀ a ∈ b, okA a = true := fun a ha => by
    simp only [okQ, Bool.and_eq_true, List.all_eq_true] at h1
    exact h1.1.2 a ha
  have hsm : ∀ m ∈ ms, ∀ i, 0 ≤ m.getD i 0 ∧ m.getD i 0 ≤ 99 := fun m hm i => sm_get (runF_sm h2 hr m hm) i
  have g011 := g07.trans g11
  refine ⟨_, _, rfl, cF rfl ⟨bv, ((g4.trans g7).trans g11).cell (boxc hw1 1 _ rfl), SlX.ln (hb.gr g011) ?_⟩⟩
  refine ⟨fun out t w' => ∃ i : Nat, t = i ∧ i ≤ b.length ∧ OwnX (fun _ => False) 1 repF w' w11.heap.size 26 out ((redL b ms).take i) ∧ Grow w11 w', fun _ t _ => b.length - t.toNat, ⟨0, rfl, by omega, OwnX.nil _ _ _, Grow.refl _⟩, ?_⟩
  rintro - out t w24 ⟨i, rfl, hi, hout, g24⟩
  have g024 := g011.trans g24
  have hrl : (redL b ms).length = b.length := by simp [redL]
  refine condD (fun hlt => ?_) (fun hge => ?_)
  · have hil : i < b.length := by omega
    obtain ⟨a, ha⟩ : ∃ a, a = b[i] := ⟨_, rfl⟩
    have hTa : TermA a := ha ▸ hT _ (List.getElem_mem hil)
    have hal : a.2.length ≤ 3 := (okA_iff.1 (ha ▸ oA _ (List.getElem_mem hil))).2.2.2.1
    refine SlX.loc (hb.gr g024) rfl hil rfl fun w30 u g30 s30 hu c0 c1 => ?_
    rw [← ha] at hu c0
    obtain ⟨S, hS⟩ : ∃ S : Nat → Prop, S = fun k => some k = out.ownBlock := ⟨_, rfl⟩
    have hSl : ∀ k, S k → k < w24.heap.size := fun k hk => by rw [hS] at hk; exact (hout.lt hk.symm).2
    have hs30 := g30.size
    refine SlR.ln (SlR.grow hs (g24.trans g30)) ⟨fun keys t w' => ∃ j : Nat, t = j ∧ j ≤ ms.length ∧ SlS S w' keys (srtL ((ms.take j).map fun m => keyA (imgA m a))) ∧ Grow w30 w', fun _ t _ => ms.length - t.toNat, ⟨0, rfl, by omega, SlX.nil _, Grow.refl _⟩, ?_⟩
    rintro - keys t w40 ⟨j, rfl, hj, hkeys, g40⟩
    have cA : ∀ {w'}, Grow w30 w' → w'.cell? (Addr.add ⟨w24.heap.size, 0, none⟩ 0) = some (.int .i64 a.1) := fun g => g.cell c0
    refine condD (fun hlt2 => ?_) (fun hge2 => ?_)
    · have hjl : j < ms.length := by omega
      refine SlV.loc (SlR.grow hs ((g24.trans g30).trans g40)) rfl hjl rfl fun w46 g46 s46 hV => ?_
      have g3046 := g40.trans g46
      refine ⟨a.1, cA g3046, fun w49 hw49 => ?_⟩
      have g49 := alloc_grow hw49
      have g3049 := g3046.trans g49
      have hk0 : OwnI w49 w46.heap.size (.slice (some ⟨w46.heap.size, 0, none⟩) 1 1) [a.1] := by
        have := Own.lit (B := w46.heap.size) (n := 1) (sz := 1) hw49 (Nat.le_refl _) (by omega) (by simp)
        simpa [OwnI, VC.encI] using this
      refine ⟨u, g3049.cell c1, (hu.grow g3049).ln ⟨fun kv t w' => ∃ p : Nat, t = p ∧ p ≤ a.2.length ∧ OwnI w' w46.heap.size kv (a.1 :: (a.2.take p).map (ofV ms[j])) ∧ Fr (fun i => w46.heap.size ≤ i) w49 w', fun _ t _ => a.2.length - t.toNat, ⟨0, rfl, by omega, by simpa using hk0, Fr.refl _ _⟩, ?_⟩⟩
      rintro - kv t w59 ⟨p, rfl, hp, hkv, hf⟩
      have g59 : Grow w46 w59 := g49.fr hf fun i hi e => by omega
      refine condD (fun hlt3 => ?_) (fun hge3 => ?_)
      · have hpl : p < a.2.length := by omega
        have hx := hTa _ (List.getElem_mem hpl)
        have next : ∀ {z : Int} {w65 : World}, z = ofV ms[j] a.2[p] → w65 = w59.alloc (.cells #[.int .i64 z] 3) → PApp Try.prog 22 22 kv (.slice (some ⟨w59.heap.size, 0, none⟩) 1 1) w65 fun t w67 => inR ((p : Int) + 1) ∧ ((∃ p' : Nat, (p : Int) + 1 = p' ∧ p' ≤ a.2.length ∧ OwnI w67 w46.heap.size t (a.1 :: (a.2.take p').map (ofV ms[j])) ∧ Fr (fun i => w46.heap.size ≤ i) w49 w67) ∧ a.2.length - Int.toNat ((p : Int) + 1) < a.2.length - Int.toNat (p : Int)) := fun {z w65} hz hw65 => by
          subst hz
          refine papp1 el_int hw65 hkv rfl (by have := g59.size; omega) (by simp; omega) (by omega) ?_
          intro v' w' ho2 hf2 _
          refine ⟨by unfold inR; omega, ⟨p + 1, by omega, by omega, ?_, hf.trans ((Fr.of_grow (alloc_grow hw65)).trans (hf2.mono fun k _ e => (Own.lt hkv e.symm).1))⟩, by omega⟩
          rw [List.take_succ_eq_append_getElem hpl, List.map_append, ← List.cons_append]
          unfold OwnI
          rw [List.length_append, List.map_append]
          exact ho2
        refine (hu.grow (g3046.trans g59)).rd rfl hpl (condD (fun hpos => ?_) fun hneg => ?_)
        · have h99 := hsm _ (List.getElem_mem hjl) (a.2[p]).toNat
          refine ⟨by omega, ms[j].getD (a.2[p]).toNat 0, cells8 (hV.grow g59) (by omega), by unfold inR; omega, by unfold inR; omega, fun w65 hw65 => next ?_ hw65⟩
          rw [ofV, if_neg (by omega)]; omega
        · refine ⟨by unfold inR; omega, fun w68 hw68 => next ?_ hw68⟩
          rw [ofV, if_pos (by omega)]; omega
      · have hpl : p = a.2.length := by omega
        subst hpl
        rw [List.take_length] at hkv
        have hL : (srtL ((ms.take j).map fun m => keyA (imgA m a))).length ≤ 100000 := by
          have h9 := len_srt (key := id) ((ms.take j).map fun m => keyA (imgA m a))
          rw [List.length_map, List.length_take] at h9
          show (srtK id _).length ≤ 100000
          omega
        have hsz59 := (g3046.trans g59).size
        refine (put_s (S := S) (fun k hk => by have := hSl k hk; omega) (SlX.grow (repIS_mono S) hkeys (g46.trans g59)) (str_srt key_id _) (fun w' hf' => Own.slI (Own.fr hkv hf' fun k hk e => by have := hSl k e; have := (Own.lt hkv hk).1; have := g3046.size; omega)) hL).mono ?_
        rintro e w71 ⟨v', rfl, hv', g71⟩
        refine ⟨v', rfl, by unfold inR; omega, ⟨j + 1, by omega, by omega, ?_, (g3046.trans g59).trans g71⟩, by dsimp only; omega⟩
        rw [List.take_succ_eq_append_getElem hjl, List.map_append]
        show SlX 1 (repIS S) w71 v' (srtK id (_ ++ [keyA (imgA ms[j] a)]))
        rw [srt_app]
        exact hv'
    · have hjl : j = ms.length := by omega
      subst hjl
      rw [List.take_length] at hkeys
      obtain ⟨fs, hfs⟩ : ∃ fs, fs = srtF (ms.map fun m => imgA m a) := ⟨_, rfl⟩
      have hkeq : srtL (ms.map fun m => keyA (imgA m a)) = fs.map keyA := by
        rw [hfs, ← srt_keys, List.map_map]; rfl
      rw [hkeq] at hkeys
      have hfl : fs.length ≤ 20000 := by
        rw [hfs]
        exact Nat.le_trans (len_srt _) (by simpa using hml)
      refine SlX.ln hkeys ⟨fun sv t w' => ∃ p : Nat, t = p ∧ p ≤ fs.length ∧ OwnX S 2 repA w' w40.heap.size 46 sv (fs.take p) ∧ Grow w40 w', fun _ t _ => fs.length - t.toNat, ⟨0, rfl, by omega, OwnX.nil _ _ _, Grow.refl _⟩, ?_⟩
      rintro - sv t w82 ⟨p, rfl, hp, hsv, g82⟩
      refine condD (fun hlt3 => ?_) (fun hge3 => ?_)
      · have hpl : p < fs.length := by rw [List.length_map] at hlt3; omega
        have hkp : SlX 1 (fun _ cs x => repIS S w40 cs x) w82 keys (fs.map keyA) := SlX.pin hkeys g82
        obtain ⟨ka, kn, kc, ek, hb0, cs, hcl, hcs, hrep⟩ := hkp.rd (j := (p : Int)) rfl (by rw [List.length_map]; exact hpl) (K := fun cs => repIS S w40 cs (keyA fs[p])) (fun cs _ hr => by rw [List.getElem_map] at hr; exact hr)
        obtain ⟨ku, rfl, hku⟩ := hrep w40 (Fr.refl _ _)
        have hkuS : ∀ w', Fr S w40 w' → SlI w' ku (keyA fs[p]) := fun w' hf' => by
          obtain ⟨ku', e, h9⟩ := hrep w' hf'
          obtain rfl : ku = ku' := by simpa using e
          exact h9
        have hc0 := hcs 0 ku rfl
        rw [add_add, Nat.add_zero] at hc0
        refine ⟨ka, kn, kc, ek, hb0, ku, hc0, fun m => ?_⟩
        have gm : Grow w82 (dr w82 m) := (Grow.refl w82).dr m
        have hq : SlI w40 ku (fs[p].1 :: fs[p].2) := hku
        obtain ⟨a0, n0, c0', e0, hb1, tk, htk, htk2⟩ := hq.rd (i := 0) (j := 0) rfl (by simp) (K := fun t => t = fs[p].1) rfl
        subst htk2
        obtain ⟨a1, n1, c1', e1', l1, h1', m1, b1, hsl⟩ := SlI.fromQ (Q := fun w' => Fr S w40 w') (ik := .i64) (z := 1) (i := 1) (K := fun x => SlI w40 x fs[p].2 ∧ ∀ w', Fr S w40 w' → SlI w' x fs[p].2) (Fr.refl _ _) hkuS rfl (by simp [keyA]) fun v' hv' => ⟨by simpa [keyA] using hv' w40 (Fr.refl _ _), fun w' hf' => by simpa [keyA] using hv' w' hf'⟩
        refine ⟨a0, n0, c0', e0, hb1, a1, n1, c1', e1', l1, h1', m1, b1, _, (g82.trans gm).cell htk, hsl.1.one, ?_⟩
        obtain ⟨xv, exv⟩ : ∃ xv, xv = (Value.slice (if m1 = l1 then a1 else a1.map (·.add (l1 * 1))) (h1' - l1) (m1 - l1)) := ⟨_, rfl⟩
        rw [← exv] at hsl
        rw [← exv]
        refine bs1 el_fact (by omega) (by omega) (cs := #[.int .i64 fs[p].1, xv]) rfl _ fun w98 hw98 => ?_
        refine pappX1 el_fact (by omega) (cs := [.int .i64 fs[p].1, xv]) (y := fs[p]) (hsv.grow gm) hw98 ⟨rfl, fun y hy => ?_, fun w' hf' => ⟨xv, rfl, hsl.2 w' (Fr.mono ((Fr.of_grow (g82.trans gm)).trans hf') fun k hk e => ?_)⟩⟩ (g82.trans gm).size (by simp; omega) (by omega) ?_
        · simp at hy
          rcases hy with rfl | rfl
          · rfl
          · exact hsl.1.one.2
        · rcases e with e | e
          · exact e
          · have := (hsv.lt e.symm).1; omega
        · intro v2 w101 ho2 hf2 _ _
          refine ⟨by unfold inR; omega, ⟨p + 1, by omega, by omega, ?_, ((g82.trans gm).trans (alloc_grow hw98)).fr hf2 fun k hk e => by have := (hsv.lt e.symm).1; omega⟩, by dsimp only; omega⟩
          rw [List.take_succ_eq_append_getElem hpl]
          exact ho2
      · have hpl : p = fs.length := by rw [List.length_map] at hge3; omega
        subst hpl
        rw [List.take_length] at hsv
        refine ⟨hsv.one, fun w102 hw102 => ?_⟩
        have g82' := (g30.trans g40).trans g82
        refine pappX1 el_facts (by omega) (cs := [sv]) (y := fs) (hout.grow g82') hw102 ⟨rfl, fun y hy => ?_, fun w' hf' => ⟨sv, rfl, ?_⟩⟩ (by have := g82'.size; have := g24.size; omega) (by simp; omega) (by omega) ?_
        · simp at hy
          subst hy
          exact hsv.one.2
        · refine (OwnX.fr hsv (S := S) (hf'.mono fun k _ e => ?_) (fun k e => e) fun k hk e => ?_).slX
          · rcases e with e | e
            · exact absurd e id
            · rw [hS]; exact e
          · have := (hsv.lt hk).1
            have := hSl k e
            have := g40.size
            omega
        · intro v2 w104 ho2 hf2 _ _
          refine ⟨by unfold inR; omega, ⟨i + 1, by omega, by omega, ?_, ((g24.trans g82').trans (alloc_grow hw102)).fr hf2 fun k hk e => by have := (hout.lt e.symm).1; omega⟩, by dsimp only; omega⟩
          rw [List.take_succ_eq_append_getElem (by rw [hrl]; exact hil)]
          have : (redL b ms)[i]'(by rw [hrl]; exact hil) = fs := by simp [redL, hfs, ha]
          rw [this]
          exact ho2
  · have hil : i = b.length := by omega
    subst hil
    rw [← hrl, List.take_length] at hout
    exact ⟨out, rfl, hout.slX, g011.trans g24⟩
end Go.Proofs.Ytjkphmbjdleppaa
