/- Contracts: all matches of a query. No condition. -/
import Derived.Test.YtmjpnfapjcfejaaDoorMj
namespace Go.Proofs.YtmjpnfapjcfejaaDoor
open Go Go.RowKit VC Go.WideMaps
set_option linter.unusedSimpArgs false
set_option linter.unusedVariables false

def zV : Value := .agg #[.int .i64 0, .int .i64 0, .int .i64 0, .int .i64 0, .int .i64 0, .int .i64 0, .int .i64 0, .int .i64 0]
theorem el_vals : ElT Tryd.prog 89 148 8 64 zV := ⟨by kernel_rfl, ⟨Tryd.t148, by kernel_rfl, by kernel_rfl, by kernel_rfl, by kernel_rfl⟩, rfl⟩
theorem arr_key : ArrKey Tryd.prog 148 3 8 := ⟨by kernel_rfl, by kernel_rfl, by kernel_rfl, by kernel_rfl⟩
theorem types_pos : ∃ m, Tryd.prog.types.size = m + 1 := ⟨Tryd.prog.types.size - 1, by
  have : 0 < Tryd.prog.types.size := of_decide_eq_true (by kernel_rfl)
  omega⟩
def keyV (m : Vals) : Value := .agg (encV m).toArray
theorem keyV_inj {m n : Vals} (h1 : m.length = 8) (h2 : n.length = 8) (h : keyV m = keyV n) : m = n := by
  simp only [keyV, Value.agg.injEq] at h
  exact encV_inj h1 h2 (by simpa using h)
theorem keyV_of {m : Vals} (h : m.length = 8) (hs : Sm m) : ∃ l, keyOf Tryd.prog 148 (keyV m) = some l := by
  unfold keyV
  rw [encV_eq h]
  exact keyOf_eight arr_key (by kernel_rfl) types_pos h (sm_wf hs)
abbrev MapS (w : World) (b : Nat) (N : List Vals) : Prop := MapB Tryd.prog 148 w b (N.map keyV)
abbrev OwnV (w : World) (B : Nat) (v : Value) (ms : List Vals) : Prop := Own w B 148 8 v ms.length (ms.flatMap encV)
theorem OwnV.slV {w : World} {B : Nat} {v : Value} {ms : List Vals} (h : OwnV w B v ms) : SlV w v ms := Own.slR h
/-- A local copy of eight numbers. -/
theorem SlV.loc {P : Program} {w : World} {v : Value} {ms : List Vals} (h : SlV w v ms) {i : Nat} {j : Int} (hj : j = (i : Int)) (hi : i < ms.length) {zs : Array Value} (hz : zs.size = 8) {t : TypeId} {K : World → Prop}
    (hk : ∀ w2, Grow w w2 → w.heap.size < w2.heap.size → RecV w2 w.heap.size (encV ms[i]) → K w2) :
    ∃ (a : Addr) (m c : Nat), v = .slice (some a) m c ∧ ((0 : Int) ≤ j ∧ j < (m : Int)) ∧ ∃ cs : List Value, cs.length = 8 ∧ (∀ t u, cs[t]? = some u → w.cell? (Addr.add (a.add (Int.toNat j * 8)) t) = some u) ∧
      ∀ w1, w1 = w.alloc (.cells zs t) → ∃ cs' : Array Value, (Value.agg cs.toArray) = Value.agg cs' ∧ cs'.size = 8 ∧ ∃ w2 : World, (storeCells ⟨w.heap.size, 0, none⟩ cs'.toList).run P w1 = .ok () w2 ∧ K w2 := by
  refine SlR.rd h encV_len hj hi fun w1 hw1 => ?_
  have := RecV.init (P := P) (cs := encV ms[i]) hw1 (by rw [hz, encV_len]) (encV_one _) (K := K) hk
  rwa [hz] at this
/-- All matches, or that there are too many. -/
def MatR (w : World) (o : Option (List Vals)) : Ending → World → Prop := fun e w' => Grow w w' ∧ ((∃ v ms, e = .returned (.tuple #[v, .bool true]) ∧ o = some ms ∧ SlV w' v ms) ∨ (∃ v, e = .returned (.tuple #[v, .bool false]) ∧ o = none))
/-- Between the rounds over the facts. -/
structure InI (w25 : World) (mb C : Nat) (fs : List Atm) (ms : List Vals) (a : Atm) (i j : Nat) (hi : i < ms.length) (next : Value) (w' : World) (N : List Vals) : Prop where
  eq : N = stepM fs (ms.take i) a ++ (fs.take j).filterMap (fitA ms[i] a)
  few : N.length ≤ 20000
  own : OwnV w' w25.heap.size next N
  off : ∀ b, next.ownBlock = some b → b ≠ C
  map : MapS w' mb N
  rc : RecV w' C (encV ms[i])
  fr : Fr (fun b => mb ≤ b) w25 w'
theorem matches_c {w : World} {hv bv facts : Value} {b l : List Atm} (hb : SlA w bv b) (hl : SlA w facts l) (okB : ∀ a ∈ b, TermA a) (hbl : b.length ≤ 1000) (hf : okFs l = true) :
    Calls Tryd.prog 79 #[.agg #[hv, bv], facts] w (MatR w (runF l b)) := by
  have hpos := okF_pos hf
  have hlen : l.length ≤ 24 := by
    simp only [okFs, Bool.and_eq_true, decide_eq_true_eq] at hf
    exact hf.1
  refine f79_calls _ _ ?_
  refine ⟨_, rfl, fun w1 hw1 => ?_⟩
  have g1 := alloc_grow hw1
  refine (once_c (hl.gr g1) (by omega)).mono ?_
  rintro e w3 ⟨fv, fs, rfl, hO, ho3, g3⟩
  have hfs : fs = srtF l := srt_eq key_A hO.inc hO.mem
  have hfp : PosF fs := fun f hf => hpos f ((hO.mem f).1 hf)
  have hfn : fs.Nodup := str_nodup (key := keyA) hO.inc
  have hfl : fs.length ≤ 24 := Nat.le_trans hO.len hlen
  have hf99 : ∀ f ∈ fs, ∀ y ∈ f.2, 1 ≤ y ∧ y ≤ 99 := fun f h0 y hy => by
    simp only [okFs, Bool.and_eq_true, List.all_eq_true] at hf
    exact (okF_iff.1 (hf.2 f ((hO.mem f).1 h0))).2.2.2.2 y hy
  have hF : SlA w3 fv fs := ho3.slX
  refine ⟨fv, rfl, bs1 el_vals (by omega) (by omega) (cs := (encV zeroV).toArray) (by simp [encV_len]) w3 fun w6 hw6 => ?_⟩
  have g6 := alloc_grow hw6
  have g06 := (g1.trans g3).trans g6
  have hall0 : OwnV w6 w3.heap.size (.slice (some ⟨w3.heap.size, 0, none⟩) 1 1) [zeroV] := by
    have := Own.lit (B := w3.heap.size) (n := 1) (sz := 8) hw6 (Nat.le_refl _) (by omega) (by simp [encV_len])
    simpa [OwnV] using this
  refine ⟨bv, (g3.trans g6).cell (boxc hw1 1 _ rfl), SlX.ln (hb.gr g06) ?_⟩
  refine ⟨fun all t w' => ∃ (k : Nat) (ms : List Vals), t = k ∧ k ≤ b.length ∧ SlV w' all ms ∧ StM fs (b.take k) ms ∧ (∀ m ∈ ms, Sm m) ∧ runM fs [zeroV] b = runM fs ms (b.drop k) ∧ ms.length ≤ 20000 ∧ Grow w6 w', fun _ t _ => b.length - t.toNat,
    ⟨0, [zeroV], rfl, by omega, OwnV.slV hall0, by simpa using StM.zero fs, by
      intro m hm
      simp at hm
      subst hm
      intro x hx
      simp [zeroV] at hx
      omega, rfl, by simp, Grow.refl w6⟩, ?_⟩
  rintro - all t w17 ⟨k, ms, rfl, hk, hall, hSt, hsm, hrun, hms, g17⟩
  have g017 := g06.trans g17
  refine condD (fun hlt => ?_) (fun hge => ?_)
  · have hkl : k < b.length := by omega
    obtain ⟨a, ha⟩ : ∃ a, a = b[k] := ⟨_, rfl⟩
    have hTa : TermA a := ha ▸ okB _ (List.getElem_mem hkl)
    rw [List.drop_eq_getElem_cons hkl, ← ha, runM] at hrun
    have hnd := (hSt.step hTa hfp hfn).nodup
    have h8 : ∀ n ∈ stepM fs ms a, n.length = 8 := step_len8 (fun m hm => (hSt.dom m hm).1) hTa hfp
    have hsmN : ∀ n ∈ stepM fs ms a, Sm n := fun n hn => by
      unfold stepM at hn
      simp only [List.mem_flatMap, List.mem_filterMap] at hn
      obtain ⟨m, hm, f, hff, hfit⟩ := hn
      unfold fitA at hfit
      split at hfit
      · exact fitL_sm (hsm m hm) (hf99 f hff) hfit
      · cases hfit
    refine SlX.loc (hb.gr g017) rfl hkl rfl fun w23 u g23 s23 hu c0 c1 => ?_
    rw [← ha] at hu c0
    refine MapB.make (P := Tryd.prog) (k := 148) _ w23 fun w25 hw25 hm25 g25 s25 => ?_
    refine SlR.ln hall ⟨fun next t w' => ∃ (i : Nat) (N : List Vals), t = i ∧ i ≤ ms.length ∧ N = stepM fs (ms.take i) a ∧ N.length ≤ 20000 ∧ OwnV w' w25.heap.size next N ∧ MapS w' w23.heap.size N ∧ Fr (fun b => w23.heap.size ≤ b) w25 w', fun _ t _ => ms.length - t.toNat,
      ⟨0, [], rfl, by omega, by simp [stepM], by simp, Own.nil _ _ _ _, hm25, Fr.refl _ _⟩, ?_⟩
    rintro - next t w35 ⟨i, N, rfl, hi, hN, hN2, hown, hmap, hfr⟩
    have gF : ∀ {w'}, Fr (fun b => w23.heap.size ≤ b) w25 w' → Grow w23 w' := fun hf => g25.fr hf fun i hi e => by omega
    have g35 := gF hfr
    refine condD (fun hlt2 => ?_) (fun hge2 => ?_)
    · have hil : i < ms.length := by omega
      have h8i := (hSt.dom _ (List.getElem_mem hil)).1
      refine SlV.loc (SlR.grow hall (g23.trans g35)) rfl hil rfl fun w41 g41 s41 hC => ?_
      have hfr41 := hfr.trans (Fr.of_grow g41)
      have g041 : Grow w3 w41 := ((g6.trans g17).trans g23).trans (gF hfr41)
      refine SlX.ln (hF.gr g041) ⟨fun next t w' => ∃ (j : Nat) (N : List Vals), t = j ∧ j ≤ fs.length ∧ InI w25 w23.heap.size w35.heap.size fs ms a i j hil next w' N, fun _ t _ => fs.length - t.toNat,
        ⟨0, N, rfl, by omega, ⟨by simpa using hN, hN2, Own.grow hown g41, fun b hb e => by have := (Own.lt hown hb).2; omega, hmap.grow g41, hC, hfr41⟩⟩, ?_⟩
      rintro - next t w51 ⟨j, N, rfl, hj, hI⟩
      have g051 : Grow w3 w51 := ((g6.trans g17).trans g23).trans (gF hI.fr)
      have hCs : w25.heap.size ≤ w35.heap.size := hfr.size
      refine condD (fun hlt3 => ?_) (fun hge3 => ?_)
      · have hjl : j < fs.length := by omega
        refine SlX.loc (hF.gr g051) rfl hjl rfl fun w57 u2 g57 s57 hu2 d0 d1 => ?_
        have hfr57 := hI.fr.trans (Fr.of_grow g57)
        have k0 := (gF hfr57).cell c0
        have k1 := (gF hfr57).cell c1
        refine ⟨_, encV_len ms[i], (hI.rc.grow g57).all, [_, _], rfl, two k0 k1, [_, _], rfl, two d0 d1, (fits_c (m := ms[i]) h8i (hu.grow (gF hfr57)) hu2 hTa).mono ?_⟩
        rintro e w62 ⟨m', ok, rfl, g62, h8', hfit⟩
        refine ⟨_, _, rfl, fun w66 hw66 => RecV.init (cs := encV m') hw66 (by rw [encV_len]; rfl) (encV_one _) fun w67 g67 s67 hW => ?_⟩
        have g5767 := g62.trans g67
        have hfr67 := hfr57.trans (Fr.of_grow g5767)
        have hcs := g57.size
        have hs51 := hI.rc.lt
        cases ok with
        | false =>
          refine cT rfl ⟨by unfold inR; omega, ⟨j + 1, N, by omega, by omega, ⟨?_, hI.few, Own.grow hI.own (g57.trans g5767), hI.off, hI.map.grow (g57.trans g5767), hI.rc.grow (g57.trans g5767), hfr67⟩⟩, by dsimp only; omega⟩
          rw [fm_take hjl, show fitA ms[i] a fs[j] = none from hfit]
          simpa using hI.eq
        | true =>
          have hfit : fitA ms[i] a fs[j] = some m' := hfit
          obtain ⟨C, hC⟩ := step_split hil hjl hfit
          rw [← hI.eq] at hC
          have hmem : m' ∈ stepM fs ms a := by rw [hC]; simp
          have hnot : m' ∉ N := fun hin => by
            have h9 := hnd
            rw [hC] at h9
            exact (List.pairwise_append.1 h9).2.2 m' hin m' (List.mem_cons_self ..) rfl
          have hN8 : ∀ n ∈ N, n.length = 8 := fun n hn => h8 n (by rw [hC]; exact List.mem_append.2 (.inl hn))
          have hkn : keyV m' ∉ N.map keyV := fun hin => by
            obtain ⟨n, hn, e⟩ := List.mem_map.1 hin
            exact hnot (keyV_inj (hN8 n hn) h8' e ▸ hn)
          obtain ⟨kl, hkl'⟩ := keyV_of h8' (hsmN _ hmem)
          have hm67 := hI.map.grow (g57.trans g5767)
          have ho67 := Own.grow hI.own (g57.trans g5767)
          refine cF rfl ⟨_, encV_len m', hW.all, false, w67, hm67.no arr_key.law (t := 149) (et := 4) (i := Tryd.t4) (by kernel_rfl) (by kernel_rfl) (by kernel_rfl) hkl' hkn, cF rfl ?_⟩
          refine SlR.ln (OwnV.slV ho67) (condP_i (fun hfull => ?_) fun hroom => ?_)
          · have hfull : N.length = 20000 := by simp at hfull; omega
            refine ⟨g017.trans (g23.trans (gF hfr67)), .inr ⟨_, rfl, ?_⟩⟩
            unfold runF
            rw [← hfs, hrun, if_neg]
            rw [hC, List.length_append, List.length_cons]
            omega
          · have hroom : N.length ≠ 20000 := by simp at hroom; omega
            have hNf := hI.few
            obtain ⟨w76, hrun76, hm76, hf76⟩ := hm67.add arr_key.law (t := 149) (et := 4) (by kernel_rfl) hkl' hkn
            have hmblt := hm67.lt
            have hW76 : RecV w76 w62.heap.size (encV m') := hW.fr hf76 (by
              have := hI.map.lt
              have := g57.size
              have := g62.size
              omega)
            have hNone : ∀ {b : Nat}, next.ownBlock = some b → b ≠ w23.heap.size := fun {b} hb e => by have := (Own.lt hI.own hb).1; omega
            refine ⟨_, encV_len m', hW.all, w76, hrun76, _, encV_len m', hW76.all, bs1 el_vals (by omega) (by omega) (cs := (encV m').toArray) (by simp [encV_len]) w76 fun w78 hw78 => ?_⟩
            have g78 := alloc_grow hw78
            have hs76 := hf76.size
            have ho76 : OwnV w76 w25.heap.size next N := Own.fr ho67 hf76 fun b hb e => hNone hb e
            refine pappRk el_vals (by omega) encV_len encV_one hw78 ho76 (by have := hfr67.size; omega) (by omega) (by omega) ?_
            intro v2 w81 ho2 hf2 hbl
            refine ⟨by unfold inR; omega, ⟨j + 1, N ++ [m'], by omega, by omega, ⟨?_, by simp; omega, ho2, fun b hb e => ?_, ?_, ?_, ?_⟩⟩, by dsimp only; omega⟩
            · rw [fm_take hjl, hfit, ← List.append_assoc, ← hI.eq]
            · rcases hbl b hb with h | h
              · exact hI.off b h.symm e
              · have := hfr67.size
                have := g5767.size
                omega
            · unfold MapS; rw [List.map_append]
              exact (hm76.grow g78).fr hf2 fun e => hNone e.symm rfl
            · exact (((hI.rc.grow (g57.trans g5767)).fr hf76 (by omega)).grow g78).fr hf2 fun e => hI.off _ e.symm rfl
            · refine hfr67.trans ((hf76.mono fun b _ e => by omega).trans ((Fr.of_grow g78).trans (hf2.mono fun b _ e => ?_)))
              have := (Own.lt hI.own e.symm).1
              omega
      · have hjl : j = fs.length := by omega
        subst hjl
        refine ⟨by unfold inR; omega, ⟨i + 1, N, by omega, by omega, ?_, hI.few, hI.own, hI.map, hI.fr⟩, by dsimp only; omega⟩
        rw [hI.eq, List.take_length, step_take hil]
    · have hil : i = ms.length := by omega
      subst hil
      rw [List.take_length] at hN
      subst hN
      refine ⟨by unfold inR; omega, ⟨k + 1, _, by omega, by omega, OwnV.slV hown, ?_, hsmN, ?_, hN2, ((g17.trans g23).trans g35)⟩, by dsimp only; omega⟩
      · rw [List.take_succ_eq_append_getElem hkl, ← ha]
        exact hSt.step hTa hfp hfn
      · rw [hrun, if_pos hN2]
  · have hkl : k = b.length := by omega
    subst hkl
    rw [List.drop_length] at hrun
    refine ⟨g017, .inl ⟨all, ms, rfl, ?_, hall⟩⟩
    unfold runF
    rw [← hfs, hrun, runM]
end Go.Proofs.YtmjpnfapjcfejaaDoor
