/- The calculus, third part: regions, code, calls; soundness. No condition. -/
import Derived.Test.YtleiddajojgmmaaVd
namespace Go.Proofs.Ytleiddajojgmmaa.VC
open Go Go.RowKit
set_option linter.unusedSimpArgs false
set_option linter.unusedVariables false
variable (C : Nat → Bool)

/-! ## Frames -/
structure Agree (W : List Nat) (a a' : Act) : Prop where
  size : a'.tmps.size = a.tmps.size
  defers : a'.defers = a.defers
  same : ∀ i, i ∉ W → a'.tmps[i]? = a.tmps[i]?
theorem Agree.refl (W : List Nat) (a : Act) : Agree W a a := ⟨rfl, rfl, fun _ _ => rfl⟩
theorem Agree.trans {W : List Nat} {a b c : Act} (h : Agree W a b) (k : Agree W b c) : Agree W a c :=
  ⟨k.size.trans h.size, k.defers.trans h.defers, fun i hi => (k.same i hi).trans (h.same i hi)⟩
theorem Agree.mono {W W' : List Nat} {a b : Act} (h : Agree W a b) (hs : ∀ i, i ∈ W → i ∈ W') : Agree W' a b :=
  ⟨h.size, h.defers, fun i hi => h.same i fun hw => hi (hs i hw)⟩
theorem Agree.put {W : List Nat} (a : Act) {d : Option Tmp} (hd : ∀ t, d = some t → t ∈ W) (v : Value) : Agree W a (a.put d v) := by
  cases d with
  | none => exact Agree.refl _ _
  | some t =>
    refine ⟨by simp [Act.put], rfl, fun i hi => ?_⟩
    have : t ≠ i := fun e => hi (e ▸ hd t rfl)
    simp [Act.put, Array.getElem?_setIfInBounds, this]
def dsts : List Oper → List Nat
  | [] => []
  | o :: r => match o.dst with
    | some d => d :: dsts r
    | none => dsts r
theorem mem_dsts {ops : List Oper} {o : Oper} (h : o ∈ ops) {t : Nat} (ht : o.dst = some t) : t ∈ dsts ops := by
  induction ops with
  | nil => cases h
  | cons p r ih =>
    rcases List.mem_cons.1 h with rfl | h
    · simp [dsts, ht]
    · unfold dsts
      split
      · exact List.mem_cons_of_mem _ (ih h)
      · exact ih h

/-! ## Regions -/
def spl (sp : List Nat) (i : Nat) (o : Oper) (v : Value) (a : Act) (k : Act → Prop) : Prop :=
  match sp.contains i with
  | true => match v with
    | .bool b => condP b (k (a.put o.dst (.bool true))) (k (a.put o.dst (.bool false)))
    | _ => False
  | false => k (a.put o.dst v)
theorem spl_out {sp : List Nat} {i : Nat} {o : Oper} {v : Value} {a : Act} {k : Act → Prop} (h : spl sp i o v a k) : k (a.put o.dst v) := by
  unfold spl at h
  split at h
  · split at h
    · rename_i b
      cases b <;> exact h
    · exact h.elim
  · exact h
def vOps (P : Program) (ops : Array Oper) (sp : List Nat) (K : Act → World → Prop) : Nat → List Oper → Act → World → Prop
  | _, [], a, w => K a w
  | i, o :: rest, a, w => match Region.wanted o (yielded ops a.tmps) with
    | true => opV C P o a.eval w fun v w' => spl sp i o v a fun a' => vOps P ops sp K (i + 1) rest a' w'
    | false => vOps P ops sp K (i + 1) rest (a.put o.dst undef) w
def qV (P : Program) (G : Bool) (o : Oper) (ρ : Operand → Value) (w : World) (K : Value → Prop) : Prop :=
  match lenPure P o.op with
  | true => pureV P o ρ K
  | false => match o.op with
    | .load t a => loadV P t (ρ a) w K
    | .call { callee := .value (.func f), args, .. } => match G && C f with
      | true => QCall P (rkOf P o.type) f (args.map ρ) w K
      | false => False
    | .call { callee := .value f, args, .. } => match G with
      | true => QCallV C P (rkOf P o.type) (ρ f) (args.map ρ) w K
      | false => False
    | _ => False
def vQ (P : Program) (G : Bool) (ops : Array Oper) (sp : List Nat) (w : World) (K : Act → Prop) : Nat → List Oper → Act → Prop
  | _, [], a => K a
  | i, o :: rest, a => match Region.wanted o (yielded ops a.tmps) with
    | true => qV C P G o a.eval w fun v => spl sp i o v a fun a' => vQ P G ops sp w K (i + 1) rest a'
    | false => vQ P G ops sp w K (i + 1) rest (a.put o.dst undef)
def allN : List Nat → (Nat → Prop) → Prop
  | [], _ => True
  | [i], f => f i
  | i :: r, f => f i ∧ allN r f
theorem allN_mem {f : Nat → Prop} : ∀ {l : List Nat}, allN l f → ∀ i ∈ l, f i
  | [], _, i, hi => by cases hi
  | [j], h, i, hi => by simp at hi; subst hi; exact h
  | j :: k :: r, h, i, hi => by
    rcases List.mem_cons.1 hi with rfl | hi
    · exact h.1
    · exact allN_mem h.2 i hi
def pureAt (P : Program) (ops : Array Oper) (i : Nat) : Bool := match ops[i]? with | some o => lenPure P o.op | none => false
/-- Whatever order is drawn: operations that look at no world are taken first; of the others each that may come. -/
def vAny (P : Program) (ops : Array Oper) (sp : List Nat) (K : Act → World → Prop) : Nat → Array Bool → Act → World → Prop
  | 0, listed, a, w => match Region.ready .any ops listed with
    | [] => K a w
    | _ => False
  | f + 1, listed, a, w => match Region.ready .any ops listed with
    | [] => K a w
    | r => match r.find? (pureAt P ops) with
      | some i => match ops[i]?, Region.free .any ops listed i with
        | some o, true => match Region.wanted o (yielded ops a.tmps) with
          | true => pureV P o a.eval fun v => spl sp i o v a fun a' => vAny P ops sp K f (listed.setIfInBounds i true) a' w
          | false => vAny P ops sp K f (listed.setIfInBounds i true) (a.put o.dst undef) w
        | _, _ => False
      | none => allN r fun i => match ops[i]? with
        | some o => match Region.wanted o (yielded ops a.tmps) with
          | true => opV C P o a.eval w fun v w' => spl sp i o v a fun a' => vAny P ops sp K f (listed.setIfInBounds i true) a' w'
          | false => vAny P ops sp K f (listed.setIfInBounds i true) (a.put o.dst undef) w
        | none => False
/-- Does operation j wait for i, in however many steps? -/
def waitsT (ops : Array Oper) (i : Nat) : Nat → Nat → Bool
  | 0, _ => false
  | f + 1, j => match ops[j]? with
    | some o => o.after.any fun e => Region.binds .any e && (e.on == i || waitsT ops i f e.on)
    | none => false
def isLoad (o : Op) : Bool := match o with | .load _ _ => true | _ => false
def stillAt (P : Program) (ops : Array Oper) (j : Nat) : Bool := match ops[j]? with | some o => lenPure P o.op || isLoad o.op | none => true
def isNew (o : Op) : Bool := match o with | .alloc _ => true | .box _ _ => true | _ => false
def newAt (ops : Array Oper) (j : Nat) : Bool := match ops[j]? with | some o => isNew o.op | none => true
def isCallV (o : Op) : Bool := match o with | .call { callee := .value _, .. } => true | .buildSlice .. => true | .lookup .. => true | _ => false
def callAt (ops : Array Oper) (j : Nat) : Bool := match ops[j]? with | some o => isCallV o.op | none => true
/-- Of a call it is asked, if G, that it turns nothing that was there. -/
def grw (G : Bool) (o : Oper) (w : World) (K : Value → World → Prop) : Value → World → Prop :=
  match G && isCallV o.op with
  | true => fun v w' => Grow w w' ∧ K v w'
  | false => K
/-- A load that all that writes waits for (but what lays new variables and, if G, calls). -/
def loadFirst (P : Program) (G : Bool) (ops : Array Oper) (listed : Array Bool) (i : Nat) : Bool :=
  (match ops[i]? with | some o => isLoad o.op | none => false) && (List.range ops.size).all fun j => listed.getD j true || stillAt P ops j || (newAt ops j || G && callAt ops j) || waitsT ops i ops.size j
/-- As vAny, but loads that all that writes waits for are taken first. -/
def vAnyL (P : Program) (G : Bool) (ops : Array Oper) (sp : List Nat) (K : Act → World → Prop) : Nat → Array Bool → Act → World → Prop
  | 0, listed, a, w => match Region.ready .any ops listed with
    | [] => K a w
    | _ => False
  | f + 1, listed, a, w => match Region.ready .any ops listed with
    | [] => K a w
    | r => match r.find? (pureAt P ops) with
      | some i => match ops[i]?, Region.free .any ops listed i with
        | some o, true => match Region.wanted o (yielded ops a.tmps) with
          | true => pureV P o a.eval fun v => spl sp i o v a fun a' => vAnyL P G ops sp K f (listed.setIfInBounds i true) a' w
          | false => vAnyL P G ops sp K f (listed.setIfInBounds i true) (a.put o.dst undef) w
        | _, _ => False
      | none => match r.find? (loadFirst P G ops listed) with
        | some i => match ops[i]?, Region.free .any ops listed i with
          | some o, true => match Region.wanted o (yielded ops a.tmps) with
            | true => opV C P o a.eval w fun v _ => spl sp i o v a fun a' => vAnyL P G ops sp K f (listed.setIfInBounds i true) a' w
            | false => vAnyL P G ops sp K f (listed.setIfInBounds i true) (a.put o.dst undef) w
          | _, _ => False
        | none => allN r fun i => match ops[i]? with
          | some o => match Region.wanted o (yielded ops a.tmps) with
            | true => opV C P o a.eval w (grw G o w fun v w' => spl sp i o v a fun a' => vAnyL P G ops sp K f (listed.setIfInBounds i true) a' w')
            | false => vAnyL P G ops sp K f (listed.setIfInBounds i true) (a.put o.dst undef) w
          | none => False
/-- How a region is to be gone through: 'q': one that draws and only reads (with calls: true); 'any': one that draws, otherwise; the list: behind which operations to part on the answer. -/
inductive RH | plain (sp : List Nat) | q (calls : Bool) (sp : List Nat) | any (sp : List Nat) | anyL (G : Bool) (sp : List Nat)
def vRegion (P : Program) (r : RH) (ops : Array Oper) (draw : Bool) (K : Act → World → Prop) (a : Act) (w : World) : Prop :=
  match draw, r with
  | false, .plain sp => vOps C P ops sp K 0 ops.toList a w
  | true, .q false sp => vQ C P false ops sp w (fun a' => ∀ m : DM w, K a' (dr w m.1)) 0 ops.toList a
  | true, .q true sp => vQ C P true ops sp w (fun a' => ∀ w', Grow w w' → K a' w') 0 ops.toList a
  | true, .any sp => ∀ m : DM w, vAny C P ops sp K ops.size (Array.replicate ops.size false) a (dr w m.1)
  | true, .anyL G sp => ∀ m : DM w, vAnyL C P G ops sp K ops.size (Array.replicate ops.size false) a (dr w m.1)
  | _, _ => False
def rOk (r : RH) (ops : Array Oper) (draw : Bool) : Bool :=
  match draw, r with
  | true, .q _ _ => Region.lexB .any ops
  | true, .any _ => Region.noSelect ops
  | true, .anyL _ _ => Region.noSelect ops
  | _, _ => true

/-! ## Code -/
inductive HT
  | leaf
  | region (r : RH)
  | seq (cut : Option (List (Nat × VK))) (a b : HT)
  | cond (a b : HT)
  | block (a : HT)
  | loop (L : List (Nat × VK)) (a : HT)
def VK.get : (k : VK) → Value → (k.T → Prop) → Prop
  | .int k, v, f => match v with
    | .int k' n => if k' = k then f n else False
    | _ => False
  | .bool, v, f => match v with
    | .bool b => f b
    | _ => False
  | .raw, v, f => f v
  | .ptr, v, f => match v with
    | .pointer (some a) => f a
    | _ => False
theorem VK.get_out {k : VK} {v : Value} {f : k.T → Prop} (h : k.get v f) : ∃ x, v = k.val x ∧ f x := by
  cases k with
  | int k =>
    cases v
    case int k' n =>
      by_cases e : k' = k
      · subst e
        exact ⟨n, rfl, by simpa [VK.get] using h⟩
      · simp [VK.get, e] at h
    all_goals exact (show False from h).elim
  | bool =>
    cases v
    case bool b => exact ⟨b, rfl, h⟩
    all_goals exact (show False from h).elim
  | raw => exact ⟨v, rfl, h⟩
  | ptr =>
    cases v
    case pointer o =>
      cases o
      · exact (show False from h).elim
      · exact ⟨_, rfl, h⟩
    all_goals exact (show False from h).elim
theorem VK.get_in : ∀ {k : VK} {x : k.T} {f : k.T → Prop}, f x → k.get (k.val x) f
  | .int k, x, f, h => by simp [VK.get, VK.val]; exact h
  | .bool, x, f, h => h
  | .raw, x, f, h => h
  | .ptr, x, f, h => h
def KPred : List (Nat × VK) → Type
  | [] => World → Prop
  | (_, k) :: r => k.T → KPred r
def KMeas : List (Nat × VK) → Type
  | [] => World → Nat
  | (_, k) :: r => k.T → KMeas r
def asP (I : KPred []) : World → Prop := I
def asN (μ : KMeas []) : World → Nat := μ
def readS : (L : List (Nat × VK)) → KPred L → Act → World → Prop
  | [], I, _, w => I w
  | (i, k) :: r, I, a, w => k.get (a.tmps.getD i undef) fun x => readS r (I x) a w
def readM : (L : List (Nat × VK)) → KPred L → KMeas L → Act → Nat → World → Prop
  | [], I, μ, _, m, w => asP I w ∧ asN μ w < m
  | (i, k) :: r, I, μ, a, m, w => k.get (a.tmps.getD i undef) fun x => readM r (I x) (μ x) a m w
def allS : (L : List (Nat × VK)) → KPred L → KMeas L → Act → (Act → (World → Prop) → (World → Nat) → Prop) → Prop
  | [], I, μ, a, f => f a I μ
  | (i, k) :: r, I, μ, a, f => ∀ x : k.T, allS r (I x) (μ x) { a with tmps := a.tmps.setIfInBounds i (k.val x) } f
def allC : (L : List (Nat × VK)) → KPred L → Act → (Act → (World → Prop) → Prop) → Prop
  | [], I, a, f => f a I
  | (i, k) :: r, I, a, f => ∀ x : k.T, allC r (I x) { a with tmps := a.tmps.setIfInBounds i (k.val x) } f
def junkA (j : Nat → Value) : List Nat → Array Value → Array Value
  | [], t => t
  | i :: r, t => junkA j r (t.setIfInBounds i (j i))
def written : Code → List Nat
  | .region _ ops _ => dsts ops.toList
  | .seq x y => written x ++ written y
  | .cond _ x y => written x ++ written y
  | .block _ c => written c
  | .loop c => written c
  | _ => []
def vc (P : Program) : HT → Code → (Exit → Act → World → Prop) → Act → World → Prop
  | _, .skip, Q, a, w => Q .normal a w
  | .region r, .region _ ops draw, Q, a, w => vRegion C P r ops draw (fun a' w' => Q .normal a' w') a w
  | .seq none h1 h2, .seq x y, Q, a, w => vc P h1 x (Exit.then (vc P h2 y Q) Q) a w
  | .seq (some L) h1 h2, .seq x y, Q, a, w => ∃ J : KPred L,
      vc P h1 x (Exit.then (fun a' w' => readS L J a' w') Q) a w ∧
      ∀ j : Nat → Value, allC L J { a with tmps := junkA j (written x) a.tmps } fun a1 J1 => ∀ w1, J1 w1 → vc P h2 y Q a1 w1
  | .cond h1 h2, .cond c x y, Q, a, w => match a.eval c with
    | .bool b => condP b (vc P h1 x Q a w) (vc P h2 y Q a w)
    | _ => False
  | .block h, .block id c, Q, a, w => vc P h c (Exit.inBlock id Q) a w
  | .loop L h, .loop c, Q, a, w => ∃ (I : KPred L) (μ : KMeas L), readS L I a w ∧
      ∀ j : Nat → Value, allS L I μ { a with tmps := junkA j (written c) a.tmps } fun a1 I1 m => ∀ w1, I1 w1 →
        vc P h c (Exit.then (fun a2 w2 => readM L I μ a2 (m w1) w2) Q) a1 w1
  | _, .exit id, Q, a, w => Q (.exit id) a w
  | _, .ret, Q, a, w => Q .ret a w
  | _, _, _, _, _ => False
def vcOk (P : Program) : HT → Code → Bool
  | .region r, .region _ ops draw => rOk r ops draw
  | .seq _ h1 h2, .seq x y => vcOk P h1 x && vcOk P h2 y
  | .cond h1 h2, .cond _ x y => vcOk P h1 x && vcOk P h2 y
  | .block h, .block _ c => vcOk P h c
  | .loop _ h, .loop c => vcOk P h c
  | _, _ => true
end Go.Proofs.Ytleiddajojgmmaa.VC

/- The calculus, fourth part: its soundness. No condition. -/
namespace Go.Proofs.Ytleiddajojgmmaa.VC
open Go Go.RowKit
set_option linter.unusedSimpArgs false
set_option linter.unusedVariables false
variable {C : Nat → Bool} {P : Program}

theorem hρ (a : Act) : ∀ f, a.eval (.func f) = .func (.func f) #[] #[] := fun _ => rfl
theorem agree_put {W : List Nat} {a : Act} {o : Oper} (hd : ∀ t, o.dst = some t → t ∈ W) (v : Value) : Agree W a (a.put o.dst v) := Agree.put a hd v

theorem vOps_wp (hC : ∀ f, C f = true → Callable P f) {ops : Array Oper} {sp : List Nat} {K : Act → World → Prop} {Q : Exit → Act → World → Prop} {W : List Nat} {a0 : Act}
    (hK : ∀ a w, Agree W a0 a → K a w → Q .normal a w) : ∀ (l : List Oper) (i : Nat) (a : Act) (w : World), (∀ o ∈ l, ∀ t, o.dst = some t → t ∈ W) → Agree W a0 a →
      vOps C P ops sp K i l a w → wpList P ops Q l a w
  | [], _, a, w, _, ha, h => hK a w ha h
  | o :: l, i, a, w, hd, ha, h => by
    have hd' : ∀ p ∈ l, ∀ t, p.dst = some t → t ∈ W := fun p hp => hd p (List.mem_cons_of_mem _ hp)
    have ho : ∀ v, Agree W a0 (a.put o.dst v) := fun v => ha.trans (agree_put (hd o (List.mem_cons_self ..)) v)
    unfold vOps at h
    unfold wpList
    split at h
    · rename_i hw
      rw [if_pos hw]
      refine .inl (OpOk.wp ?_)
      refine (opV_ok hC (hρ a) h).mono ?_
      intro v w' hk
      exact vOps_wp hC hK l _ _ _ hd' (ho v) (spl_out hk)
    · rename_i hw
      rw [if_neg (by rw [hw]; decide)]
      exact vOps_wp hC hK l _ _ _ hd' (ho undef) h

def cls (G : Bool) (w w' : World) : Prop := match G with | true => Grow w w' | false => ∃ m : DM w, w' = dr w m.1
theorem cls_true : cls true = Grow := rfl
theorem cls_cell {G : Bool} {w w' : World} (h : cls G w w') : ∀ a u, w.cell? a = some u → w'.cell? a = some u := by
  cases G with
  | true => exact fun a u hc => Grow.cell h hc
  | false => obtain ⟨m, rfl⟩ := h; exact fun a u hc => hc
theorem qV_ok (hC : ∀ f, C f = true → Callable P f) {G : Bool} {o : Oper} {a : Act} {w : World} {K : Value → Prop} (h : qV C P G o a.eval w K) :
    ∃ v, (∀ w', cls G w w' → o.quietAt P a (cls G w) w' v) ∧ K v := by
  unfold qV at h
  split at h
  · obtain ⟨v, hr, hk⟩ := pureV_runs h
    exact ⟨v, fun w' _ => by unfold Oper.quietAt; rw [hr]; exact ⟨rfl, rfl⟩, hk⟩
  · have call : ∀ {k : RK} {f : FuncId} {args : Array Value}, C f = true → QCall P k f args w K → ∃ v, (∀ w', Grow w w' → (Oper.quietUpon P (Grow w) w' v) ((callFunc f args).run P w')) ∧ K v := by
      intro k f args hf hq
      obtain ⟨v, hc, hk⟩ := RK.ex_elim hq
      refine ⟨v, fun w' hw => ?_, hk⟩
      rw [hC f hf]
      exact ⟨rfl, (hc w' hw).mono fun e w'' ⟨he, hg⟩ => ⟨he, hw.trans hg⟩⟩
    split at h
    · rename_i hop
      obtain ⟨v, hr, hk⟩ := loadV_ok h
      refine ⟨v, fun w' hw => ?_, hk⟩
      unfold Oper.quietAt
      simp only [execOp, hop]
      have := hr w' (cls_cell hw)
      simp [this, Oper.quietUpon]
    · rename_i hop
      split at h
      · rename_i hb
        simp only [Bool.and_eq_true] at hb
        obtain ⟨rfl, hf⟩ := hb
        obtain ⟨v, hr, hk⟩ := call hf h
        refine ⟨v, fun w' hw => ?_, hk⟩
        have := hr w' hw
        unfold Oper.quietAt
        simp only [execOp, hop]
        simpa [resolve, hρ, Deferred.ofValue, invoke, cls_true] using this
      · exact h.elim
    · rename_i hop
      split at h
      · obtain ⟨g, fst, cap, hf, hcg, hq⟩ := h
        obtain ⟨v, hr, hk⟩ := call hcg hq
        refine ⟨v, fun w' hw => ?_, hk⟩
        have := hr w' hw
        unfold Oper.quietAt
        simp only [execOp, hop]
        simpa [resolve, hf, Deferred.ofValue, invoke, cls_true] using this
      · exact h.elim
    · exact h.elim
theorem vQ_wp (hC : ∀ f, C f = true → Callable P f) {G : Bool} {ops : Array Oper} {sp : List Nat} {w : World} {K : Act → Prop} {K' : Act → Prop} {W : List Nat} {a0 : Act}
    (hK : ∀ a, Agree W a0 a → K a → K' a) : ∀ (l : List Oper) (i : Nat) (a : Act), (∀ o ∈ l, ∀ t, o.dst = some t → t ∈ W) → Agree W a0 a →
      vQ C P G ops sp w K i l a → wpQuiet P ops (cls G w) K' l a
  | [], _, a, _, ha, h => hK a ha h
  | o :: l, i, a, hd, ha, h => by
    have hd' : ∀ p ∈ l, ∀ t, p.dst = some t → t ∈ W := fun p hp => hd p (List.mem_cons_of_mem _ hp)
    have ho : ∀ v, Agree W a0 (a.put o.dst v) := fun v => ha.trans (agree_put (hd o (List.mem_cons_self ..)) v)
    unfold vQ at h
    unfold wpQuiet
    split at h
    · rename_i hw
      rw [if_pos hw]
      obtain ⟨v, hr, hk⟩ := qV_ok hC h
      exact ⟨v, hr, vQ_wp hC hK l _ _ hd' (ho v) (spl_out hk)⟩
    · rename_i hw
      rw [if_neg (by rw [hw]; decide)]
      exact vQ_wp hC hK l _ _ hd' (ho undef) h

/-! ### Any order -/
def okOp (P : Program) (ops : Array Oper) (i : Nat) (K : Act → World → Prop) (a : Act) (w : World) : Prop :=
  match ops[i]? with
  | none => K a w
  | some o => if Region.wanted o (yielded ops a.tmps) then OpOk P (fun v w' => K (a.put o.dst v) w') ((execOp a.eval o).run P w) else K (a.put o.dst undef) w
def okAny (P : Program) (ops : Array Oper) (K : Act → World → Prop) : Nat → Array Bool → Act → World → Prop
  | 0, listed, a, w => Region.ready .any ops listed = [] ∧ K a w
  | f + 1, listed, a, w => (Region.ready .any ops listed = [] → K a w) ∧ ∀ i ∈ Region.ready .any ops listed, okOp P ops i (okAny P ops K f (listed.setIfInBounds i true)) a w
theorem okOp_mono {ops : Array Oper} {i : Nat} {K K' : Act → World → Prop} {a : Act} {w : World} (hk : ∀ a w, K a w → K' a w) (h : okOp P ops i K a w) : okOp P ops i K' a w := by
  unfold okOp at *
  split
  · exact hk _ _ (by simpa [*] using h)
  · rename_i o ho
    simp only [ho] at h
    split
    · rename_i hw; rw [if_pos hw] at h; exact h.mono fun v w' => hk _ _
    · rename_i hw; rw [if_neg hw] at h; exact hk _ _ h
theorem okOp_wp {ops : Array Oper} {i : Nat} {K : Act → World → Prop} {Q : Exit → Act → World → Prop} {a : Act} {w : World} (h : okOp P ops i K a w) : wpOp P ops Q i K a w := by
  unfold okOp at h
  unfold wpOp
  split
  · simpa [*] using h
  · rename_i o ho
    simp only [ho] at h
    split
    · rename_i hw; rw [if_pos hw] at h; exact .inl (OpOk.wp h)
    · rename_i hw; rw [if_neg hw] at h; exact h
theorem wpOp_mono' {ops : Array Oper} {i : Nat} {K K' : Act → World → Prop} {Q : Exit → Act → World → Prop} {a : Act} {w : World} (hk : ∀ a w, K a w → K' a w) (h : okOp P ops i K a w) : wpOp P ops Q i K' a w :=
  okOp_wp (okOp_mono hk h)
theorem okAny_wp {ops : Array Oper} {K : Act → World → Prop} {Q : Exit → Act → World → Prop} (hK : ∀ a w, K a w → Q .normal a w) : ∀ (f : Nat) (listed : Array Bool) (a : Act) (w : World),
    okAny P ops K f listed a w → wpAny P .any ops Q f listed a w
  | 0, _, a, w, h => ⟨h.1, hK a w h.2⟩
  | f + 1, _, a, w, h => ⟨fun h0 => hK a w (h.1 h0), fun i hi => wpOp_mono' (fun a w h => okAny_wp hK f _ a w h) (h.2 i hi)⟩
/-- In this frame the operation leaves v in its slot, in whatever world. -/
def YieldsP (P : Program) (ops : Array Oper) (o : Oper) (v : Value) (a : Act) : Prop :=
  (Region.wanted o (yielded ops a.tmps) = true ∧ ∀ w, (execOp a.eval o).run P w = .ok (.value v) w) ∨ (Region.wanted o (yielded ops a.tmps) = false ∧ v = undef)
theorem YieldsP.ok {ops : Array Oper} {i : Nat} {o : Oper} {v : Value} {a : Act} {w : World} (hi : ops[i]? = some o) (hy : YieldsP P ops o v a) {K : Act → World → Prop} (h : K (a.put o.dst v) w) : okOp P ops i K a w := by
  unfold okOp
  simp only [hi]
  rcases hy with ⟨hw, hv⟩ | ⟨hw, rfl⟩
  · rw [if_pos hw, hv]; exact h
  · rw [if_neg (by rw [hw]; decide)]; exact h
theorem okOp_put {ops : Array Oper} {j : Nat} {oi oj : Oper} {v : Value} (hj : ops[j]? = some oj) (hap : oi.apart ops oj = true)
    (hsi : ∀ cs b, oi.op ≠ .select cs b) (hsj : ∀ cs b, oj.op ≠ .select cs b) {K : Act → World → Prop} {a : Act} {w : World}
    (hy : YieldsP P ops oi v a) (h : okOp P ops j K (a.put oi.dst v) w) : okOp P ops j (fun a' w' => YieldsP P ops oi v a' ∧ K (a'.put oi.dst v) w') a w := by
  obtain ⟨h1, h2, h3⟩ := Oper.apart_spec hap
  have keep : ∀ u, YieldsP P ops oi v (a.put oj.dst u) := fun u => by
    unfold YieldsP at *
    rw [execOp_put oi hsi a oj.dst u h3, wanted_put oi a oj.dst u h3]
    exact hy
  unfold okOp at *
  simp only [hj] at *
  rw [wanted_put oj a oi.dst v h1] at h
  split
  · rename_i hw
    rw [if_pos hw, execOp_put oj hsj a oi.dst v h1] at h
    exact h.mono fun u w' hk => ⟨keep u, by rw [← Act.put_comm a v u h2]; exact hk⟩
  · rename_i hw
    rw [if_neg hw] at h
    exact ⟨keep _, by rw [← Act.put_comm a v undef h2]; exact h⟩
theorem okAny_first {ops : Array Oper} {K : Act → World → Prop} {i : Nat} {oi : Oper} {v : Value} (hi : ops[i]? = some oi) (hsel : ∀ (j : Nat) (o : Oper) cs b, ops[j]? = some o → o.op ≠ .select cs b) :
    ∀ (fuel : Nat) (listed : Array Bool) (a : Act) (w : World),
      (∀ j oj, ops[j]? = some oj → j ≠ i → listed.getD j true = false → (∀ e ∈ oj.after, Region.binds .any e = true → e.on ≠ i) → oi.apart ops oj = true) →
      i ∈ Region.ready .any ops listed → YieldsP P ops oi v a →
      okAny P ops K fuel (listed.setIfInBounds i true) (a.put oi.dst v) w → okAny P ops K (fuel + 1) listed a w := by
  intro fuel
  induction fuel with
  | zero =>
    intro listed a w _ hr hy H
    refine ⟨fun h => (by rw [h] at hr; cases hr), fun j hj => ?_⟩
    by_cases hji : j = i
    · subst hji; exact hy.ok hi H
    · have := ready_mono hj hji
      rw [H.1] at this
      cases this
  | succ fuel ih =>
    intro listed a w hfree hr hy H
    refine ⟨fun h => (by rw [h] at hr; cases hr), fun j hj => ?_⟩
    by_cases hji : j = i
    · subst hji; exact hy.ok hi H
    · have h1 := H.2 j (ready_mono hj hji)
      obtain ⟨hjun, oj, hoj, hall⟩ := mem_ready.1 hj
      have hnot : ∀ e ∈ oj.after, Region.binds .any e = true → e.on ≠ i := fun e he hb heq => by
        have h2 := hall e he hb
        have h0 := (mem_ready.1 hr).1
        rw [heq] at h2
        rcases Nat.lt_or_ge i listed.size with h' | h'
        · simp [h'] at h0 h2; rw [h0] at h2; cases h2
        · simp [Array.getElem?_eq_none h'] at h2
      have h2 := okOp_put hoj (hfree j oj hoj hji hjun hnot) (fun cs b => hsel i oi cs b hi) (fun cs b => hsel j oj cs b hoj) hy h1
      have hfree' : ∀ k ok, ops[k]? = some ok → k ≠ i → (listed.setIfInBounds j true).getD k true = false →
          (∀ e ∈ ok.after, Region.binds .any e = true → e.on ≠ i) → oi.apart ops ok = true := fun k ok hk hki hun hno => by
        refine hfree k ok hk hki ?_ hno
        by_cases hjk : j = k
        · subst hjk; exact hjun
        · rw [getD_set_ne true hjk] at hun; exact hun
      refine okOp_mono (fun a' w' h3 => ih (listed.setIfInBounds j true) a' w' hfree' (ready_mono hr (Ne.symm hji)) h3.1 ?_) h2
      rw [Array.setIfInBounds_comm _ _ hji]
      exact h3.2
theorem vAny_ok (hC : ∀ f, C f = true → Callable P f) {ops : Array Oper} {sp : List Nat} {K K' : Act → World → Prop} {W : List Nat} {a0 : Act}
    (hns : Region.noSelect ops = true) (hd : ∀ o ∈ ops.toList, ∀ t, o.dst = some t → t ∈ W) (hK : ∀ a w, Agree W a0 a → K a w → K' a w) :
    ∀ (f : Nat) (listed : Array Bool) (a : Act) (w : World), Agree W a0 a → vAny C P ops sp K f listed a w → okAny P ops K' f listed a w := by
  have hmem : ∀ {i : Nat} {o : Oper}, ops[i]? = some o → o ∈ ops.toList := fun {i o} h => by
    rw [← Array.getElem?_toList] at h
    exact List.mem_of_getElem? h
  intro f
  induction f with
  | zero =>
    intro listed a w ha h
    unfold vAny at h
    split at h
    · rename_i hr; exact ⟨hr, hK a w ha h⟩
    · exact h.elim
  | succ f ih =>
    intro listed a w ha h
    unfold vAny at h
    split at h
    · rename_i hr
      exact ⟨fun _ => hK a w ha h, fun i hi => by rw [hr] at hi; cases hi⟩
    · rename_i hne
      split at h
      · rename_i i hfind
        have hir : i ∈ Region.ready .any ops listed := List.mem_of_find?_eq_some hfind
        split at h
        · rename_i o ho hfree
          have hy : ∀ {v}, YieldsP P ops o v a → okAny P ops K' f (listed.setIfInBounds i true) (a.put o.dst v) w → okAny P ops K' (f + 1) listed a w := fun hy h' =>
            okAny_first ho (Region.noSelect_spec hns) f listed a w (Region.free_spec ho hfree) hir hy h'
          have hag : ∀ v, Agree W a0 (a.put o.dst v) := fun v => ha.trans (agree_put (hd o (hmem ho)) v)
          split at h
          · rename_i hw
            obtain ⟨v, hr, hk⟩ := pureV_runs h
            exact hy (.inl ⟨hw, hr⟩) (ih _ _ _ (hag v) (spl_out hk))
          · rename_i hw
            exact hy (.inr ⟨hw, rfl⟩) (ih _ _ _ (hag undef) h)
        · exact h.elim
      · refine ⟨fun h0 => absurd h0 hne, fun i hi => ?_⟩
        have hi' := allN_mem h i hi
        unfold okOp
        split at hi'
        · rename_i o ho
          have hag : ∀ v, Agree W a0 (a.put o.dst v) := fun v => ha.trans (agree_put (hd o (hmem ho)) v)
          simp only [ho]
          split at hi'
          · rename_i hw
            rw [if_pos hw]
            exact (opV_ok hC (hρ a) hi').mono fun v w' hk => ih _ _ _ (hag v) (spl_out hk)
          · rename_i hw
            rw [if_neg (by rw [hw]; decide)]
            exact ih _ _ _ (hag undef) hi'
        · exact hi'.elim
/-! ### Any order, loads first -/
def stillK (P : Program) (o : Oper) : Bool := lenPure P o.op || isLoad o.op
def growK (G : Bool) (o : Oper) : Bool := isNew o.op || G && isCallV o.op
/-- As okOp; what only reads leaves the world. -/
def okOpS (P : Program) (G : Bool) (ops : Array Oper) (i : Nat) (K : Act → World → Prop) (a : Act) (w : World) : Prop :=
  match ops[i]? with
  | none => K a w
  | some o => if Region.wanted o (yielded ops a.tmps) then
      (if stillK P o = true then ∃ v, (execOp a.eval o).run P w = .ok (.value v) w ∧ K (a.put o.dst v) w else
        if growK G o = true then OpOk P (fun v w' => Grow w w' ∧ K (a.put o.dst v) w') ((execOp a.eval o).run P w) else OpOk P (fun v w' => K (a.put o.dst v) w') ((execOp a.eval o).run P w))
    else K (a.put o.dst undef) w
def okAnyS (P : Program) (G : Bool) (ops : Array Oper) (K : Act → World → Prop) : Nat → Array Bool → Act → World → Prop
  | 0, listed, a, w => Region.ready .any ops listed = [] ∧ K a w
  | f + 1, listed, a, w => (Region.ready .any ops listed = [] → K a w) ∧ ∀ i ∈ Region.ready .any ops listed, okOpS P G ops i (okAnyS P G ops K f (listed.setIfInBounds i true)) a w
theorem okOpS_mono {G : Bool} {ops : Array Oper} {i : Nat} {K K' : Act → World → Prop} {a : Act} {w : World} (hk : ∀ a w, K a w → K' a w) (h : okOpS P G ops i K a w) : okOpS P G ops i K' a w := by
  unfold okOpS at *
  split
  · exact hk _ _ (by simpa [*] using h)
  · rename_i o ho
    simp only [ho] at h
    split
    · rename_i hw
      rw [if_pos hw] at h
      split
      · rename_i hs; rw [if_pos hs] at h; obtain ⟨v, hr, h⟩ := h; exact ⟨v, hr, hk _ _ h⟩
      · rename_i hs
        rw [if_neg hs] at h
        split
        · rename_i hn; rw [if_pos hn] at h; exact h.mono fun v w' h => ⟨h.1, hk _ _ h.2⟩
        · rename_i hn; rw [if_neg hn] at h; exact h.mono fun v w' => hk _ _
    · rename_i hw; rw [if_neg hw] at h; exact hk _ _ h
theorem okOpS_ok {G : Bool} {ops : Array Oper} {i : Nat} {K : Act → World → Prop} {a : Act} {w : World} (h : okOpS P G ops i K a w) : okOp P ops i K a w := by
  unfold okOpS at h
  unfold okOp
  split
  · simpa [*] using h
  · rename_i o ho
    simp only [ho] at h
    split
    · rename_i hw
      rw [if_pos hw] at h
      split at h
      · obtain ⟨v, hr, h⟩ := h
        rw [hr]
        exact h
      · split at h
        · exact h.mono fun v w' h => h.2
        · exact h
    · rename_i hw; rw [if_neg hw] at h; exact h
theorem okAnyS_wp {G : Bool} {ops : Array Oper} {K : Act → World → Prop} {Q : Exit → Act → World → Prop} (hK : ∀ a w, K a w → Q .normal a w) : ∀ (f : Nat) (listed : Array Bool) (a : Act) (w : World),
    okAnyS P G ops K f listed a w → wpAny P .any ops Q f listed a w
  | 0, _, a, w, h => ⟨h.1, hK a w h.2⟩
  | f + 1, _, a, w, h => ⟨fun h0 => hK a w (h.1 h0), fun i hi => wpOp_mono' (fun a w h => okAnyS_wp hK f _ a w h) (okOpS_ok (h.2 i hi))⟩
theorem YieldsP.okS {G : Bool} {ops : Array Oper} {i : Nat} {o : Oper} {v : Value} {a : Act} {w : World} (hi : ops[i]? = some o) (hy : YieldsP P ops o v a) {K : Act → World → Prop} (h : K (a.put o.dst v) w) : okOpS P G ops i K a w := by
  unfold okOpS
  simp only [hi]
  rcases hy with ⟨hw, hv⟩ | ⟨hw, rfl⟩
  · rw [if_pos hw]
    split
    · exact ⟨v, hv w, h⟩
    · split
      · rw [hv]; exact ⟨Grow.refl w, h⟩
      · rw [hv]; exact h
  · rw [if_neg (by rw [hw]; decide)]; exact h
theorem okOpS_put {G : Bool} {ops : Array Oper} {j : Nat} {oi oj : Oper} {v : Value} (hj : ops[j]? = some oj) (hap : oi.apart ops oj = true)
    (hsi : ∀ cs b, oi.op ≠ .select cs b) (hsj : ∀ cs b, oj.op ≠ .select cs b) {K : Act → World → Prop} {a : Act} {w : World}
    (hy : YieldsP P ops oi v a) (h : okOpS P G ops j K (a.put oi.dst v) w) : okOpS P G ops j (fun a' w' => YieldsP P ops oi v a' ∧ K (a'.put oi.dst v) w') a w := by
  obtain ⟨h1, h2, h3⟩ := Oper.apart_spec hap
  have keep : ∀ u, YieldsP P ops oi v (a.put oj.dst u) := fun u => by
    unfold YieldsP at *
    rw [execOp_put oi hsi a oj.dst u h3, wanted_put oi a oj.dst u h3]
    exact hy
  unfold okOpS at *
  simp only [hj] at *
  rw [wanted_put oj a oi.dst v h1] at h
  split
  · rename_i hw
    rw [if_pos hw, execOp_put oj hsj a oi.dst v h1] at h
    split
    · rename_i hs
      rw [if_pos hs] at h
      obtain ⟨u, hr, h⟩ := h
      exact ⟨u, hr, keep u, by rw [← Act.put_comm a v u h2]; exact h⟩
    · rename_i hs
      rw [if_neg hs] at h
      split
      · rename_i hn
        rw [if_pos hn] at h
        exact h.mono fun u w' hk => ⟨hk.1, keep u, by rw [← Act.put_comm a v u h2]; exact hk.2⟩
      · rename_i hn
        rw [if_neg hn] at h
        exact h.mono fun u w' hk => ⟨keep u, by rw [← Act.put_comm a v u h2]; exact hk⟩
  · rename_i hw
    rw [if_neg hw] at h
    exact ⟨keep _, by rw [← Act.put_comm a v undef h2]; exact h⟩
theorem okAnyS_first {G : Bool} {ops : Array Oper} {K : Act → World → Prop} {i : Nat} {oi : Oper} {v : Value} (hi : ops[i]? = some oi) (hsel : ∀ (j : Nat) (o : Oper) cs b, ops[j]? = some o → o.op ≠ .select cs b) :
    ∀ (fuel : Nat) (listed : Array Bool) (a : Act) (w : World),
      (∀ j oj, ops[j]? = some oj → j ≠ i → listed.getD j true = false → (∀ e ∈ oj.after, Region.binds .any e = true → e.on ≠ i) → oi.apart ops oj = true) →
      i ∈ Region.ready .any ops listed → YieldsP P ops oi v a →
      okAnyS P G ops K fuel (listed.setIfInBounds i true) (a.put oi.dst v) w → okAnyS P G ops K (fuel + 1) listed a w := by
  intro fuel
  induction fuel with
  | zero =>
    intro listed a w _ hr hy H
    refine ⟨fun h => (by rw [h] at hr; cases hr), fun j hj => ?_⟩
    by_cases hji : j = i
    · subst hji; exact hy.okS hi H
    · have := ready_mono hj hji
      rw [H.1] at this
      cases this
  | succ fuel ih =>
    intro listed a w hfree hr hy H
    refine ⟨fun h => (by rw [h] at hr; cases hr), fun j hj => ?_⟩
    by_cases hji : j = i
    · subst hji; exact hy.okS hi H
    · have h1 := H.2 j (ready_mono hj hji)
      obtain ⟨hjun, oj, hoj, hall⟩ := mem_ready.1 hj
      have hnot : ∀ e ∈ oj.after, Region.binds .any e = true → e.on ≠ i := fun e he hb heq => by
        have h2 := hall e he hb
        have h0 := (mem_ready.1 hr).1
        rw [heq] at h2
        rcases Nat.lt_or_ge i listed.size with h' | h'
        · simp [h'] at h0 h2; rw [h0] at h2; cases h2
        · simp [Array.getElem?_eq_none h'] at h2
      have h2 := okOpS_put hoj (hfree j oj hoj hji hjun hnot) (fun cs b => hsel i oi cs b hi) (fun cs b => hsel j oj cs b hoj) hy h1
      have hfree' : ∀ k ok, ops[k]? = some ok → k ≠ i → (listed.setIfInBounds j true).getD k true = false →
          (∀ e ∈ ok.after, Region.binds .any e = true → e.on ≠ i) → oi.apart ops ok = true := fun k ok hk hki hun hno => by
        refine hfree k ok hk hki ?_ hno
        by_cases hjk : j = k
        · subst hjk; exact hjun
        · rw [getD_set_ne true hjk] at hun; exact hun
      refine okOpS_mono (fun a' w' h3 => ih (listed.setIfInBounds j true) a' w' hfree' (ready_mono hr (Ne.symm hji)) h3.1 ?_) h2
      rw [Array.setIfInBounds_comm _ _ hji]
      exact h3.2
/-- In this frame and world, and where new variables were laid, the operation leaves v in its slot. -/
def YieldsW (P : Program) (ops : Array Oper) (o : Oper) (v : Value) (a : Act) (w : World) : Prop :=
  (Region.wanted o (yielded ops a.tmps) = true ∧ ∀ w', Grow w w' → (execOp a.eval o).run P w' = .ok (.value v) w') ∨ (Region.wanted o (yielded ops a.tmps) = false ∧ v = undef)
theorem YieldsW.grow {ops : Array Oper} {o : Oper} {v : Value} {a : Act} {w w' : World} (h : YieldsW P ops o v a w) (hg : Grow w w') : YieldsW P ops o v a w' := by
  rcases h with ⟨h1, h2⟩ | h
  · exact .inl ⟨h1, fun w2 h3 => h2 w2 (hg.trans h3)⟩
  · exact .inr h
theorem YieldsW.okS {G : Bool} {ops : Array Oper} {i : Nat} {o : Oper} {v : Value} {a : Act} {w : World} (hi : ops[i]? = some o) (hy : YieldsW P ops o v a w) {K : Act → World → Prop} (h : K (a.put o.dst v) w) : okOpS P G ops i K a w := by
  unfold okOpS
  simp only [hi]
  rcases hy with ⟨hw, hv⟩ | ⟨hw, rfl⟩
  · rw [if_pos hw]
    split
    · exact ⟨v, hv w (Grow.refl w), h⟩
    · split
      · rw [hv w (Grow.refl w)]; exact ⟨Grow.refl w, h⟩
      · rw [hv w (Grow.refl w)]; exact h
  · rw [if_neg (by rw [hw]; decide)]; exact h
theorem okOpS_putW {G : Bool} {ops : Array Oper} {j : Nat} {oi oj : Oper} {v : Value} (hj : ops[j]? = some oj) (hap : oi.apart ops oj = true)
    (hsi : ∀ cs b, oi.op ≠ .select cs b) (hsj : ∀ cs b, oj.op ≠ .select cs b) (hst : stillK P oj = true ∨ growK G oj = true) {K : Act → World → Prop} {a : Act} {w : World}
    (hy : YieldsW P ops oi v a w) (h : okOpS P G ops j K (a.put oi.dst v) w) : okOpS P G ops j (fun a' w' => YieldsW P ops oi v a' w' ∧ K (a'.put oi.dst v) w') a w := by
  obtain ⟨h1, h2, h3⟩ := Oper.apart_spec hap
  have keep : ∀ u, YieldsW P ops oi v (a.put oj.dst u) w := fun u => by
    unfold YieldsW at *
    rw [execOp_put oi hsi a oj.dst u h3, wanted_put oi a oj.dst u h3]
    exact hy
  unfold okOpS at *
  simp only [hj] at *
  rw [wanted_put oj a oi.dst v h1] at h
  split
  · rename_i hw
    rw [if_pos hw, execOp_put oj hsj a oi.dst v h1] at h
    by_cases hs : stillK P oj = true
    · rw [if_pos hs] at h
      rw [if_pos hs]
      obtain ⟨u, hr, h⟩ := h
      exact ⟨u, hr, keep u, by rw [← Act.put_comm a v u h2]; exact h⟩
    · have hn := hst.resolve_left hs
      rw [if_neg hs, if_pos hn] at h
      rw [if_neg hs, if_pos hn]
      exact h.mono fun u w' hk => ⟨hk.1, (keep u).grow hk.1, by rw [← Act.put_comm a v u h2]; exact hk.2⟩
  · rename_i hw
    rw [if_neg hw] at h
    exact ⟨keep _, by rw [← Act.put_comm a v undef h2]; exact h⟩
structure Closed (ops : Array Oper) (listed : Array Bool) : Prop where
  size : listed.size = ops.size
  closed : ∀ j oj, ops[j]? = some oj → listed.getD j false = true → ∀ e ∈ oj.after, Region.binds .any e = true → listed.getD e.on false = true
theorem Closed.set {ops : Array Oper} {listed : Array Bool} {i : Nat} (inv : Closed ops listed) (hi : i ∈ Region.ready .any ops listed) : Closed ops (listed.setIfInBounds i true) := by
  obtain ⟨_, oi, hoi, hall⟩ := mem_ready.1 hi
  refine ⟨by simp [inv.size], fun j oj hj hl e he hb => ?_⟩
  by_cases hij : i = j
  · subst hij
    have : oj = oi := Option.some.inj (hj.symm.trans hoi)
    subst this
    exact getD_set_true (hall e he hb)
  · rw [getD_set_ne false hij] at hl
    exact getD_set_true (inv.closed j oj hj hl e he hb)
theorem Closed.waits {ops : Array Oper} {listed : Array Bool} {i : Nat} (inv : Closed ops listed) : ∀ (f j : Nat), listed.getD j false = true → waitsT ops i f j = true → listed.getD i false = true
  | 0, _, _, h => by cases h
  | f + 1, j, hl, h => by
    unfold waitsT at h
    split at h
    · rename_i o ho
      obtain ⟨e, he, h2⟩ := Array.any_eq_true'.1 h
      simp only [Bool.and_eq_true, Bool.or_eq_true, beq_iff_eq] at h2
      have h3 := inv.closed j o ho hl e he h2.1
      rcases h2.2 with h4 | h4
      · rw [← h4]; exact h3
      · exact Closed.waits inv f e.on h3 h4
    · cases h
theorem Closed.readyWaits {ops : Array Oper} {listed : Array Bool} {i : Nat} (inv : Closed ops listed) {f j : Nat} (hj : j ∈ Region.ready .any ops listed) (h : waitsT ops i f j = true) : listed.getD i false = true := by
  obtain ⟨_, oj, hoj, hall⟩ := mem_ready.1 hj
  cases f with
  | zero => cases h
  | succ f =>
    unfold waitsT at h
    rw [hoj] at h
    obtain ⟨e, he, h2⟩ := Array.any_eq_true'.1 h
    simp only [Bool.and_eq_true, Bool.or_eq_true, beq_iff_eq] at h2
    have h3 := hall e he h2.1
    rcases h2.2 with h4 | h4
    · rw [← h4]; exact h3
    · exact Closed.waits inv f e.on h3 h4
theorem okAnyS_firstL {G : Bool} {ops : Array Oper} {K : Act → World → Prop} {i : Nat} {oi : Oper} {v : Value} (hi : ops[i]? = some oi) (hsel : ∀ (j : Nat) (o : Oper) cs b, ops[j]? = some o → o.op ≠ .select cs b) :
    ∀ (fuel : Nat) (listed : Array Bool) (a : Act) (w : World), Closed ops listed →
      (∀ j oj, ops[j]? = some oj → listed.getD j true = false → (stillK P oj = true ∨ growK G oj = true) ∨ waitsT ops i ops.size j = true) →
      (∀ j oj, ops[j]? = some oj → j ≠ i → listed.getD j true = false → (∀ e ∈ oj.after, Region.binds .any e = true → e.on ≠ i) → oi.apart ops oj = true) →
      i ∈ Region.ready .any ops listed → YieldsW P ops oi v a w →
      okAnyS P G ops K fuel (listed.setIfInBounds i true) (a.put oi.dst v) w → okAnyS P G ops K (fuel + 1) listed a w := by
  intro fuel
  induction fuel with
  | zero =>
    intro listed a w _ _ _ hr hy H
    refine ⟨fun h => (by rw [h] at hr; cases hr), fun j hj => ?_⟩
    by_cases hji : j = i
    · subst hji; exact hy.okS hi H
    · have := ready_mono hj hji
      rw [H.1] at this
      cases this
  | succ fuel ih =>
    intro listed a w hcl hst hfree hr hy H
    refine ⟨fun h => (by rw [h] at hr; cases hr), fun j hj => ?_⟩
    by_cases hji : j = i
    · subst hji; exact hy.okS hi H
    · have h1 := H.2 j (ready_mono hj hji)
      obtain ⟨hjun, oj, hoj, hall⟩ := mem_ready.1 hj
      have hiun : ¬ listed.getD i false = true := fun h => by
        have h0 := (mem_ready.1 hr).1
        rcases Nat.lt_or_ge i listed.size with h' | h'
        · simp [h'] at h0 h; rw [h0] at h; cases h
        · simp [Array.getElem?_eq_none h'] at h
      have hnot : ∀ e ∈ oj.after, Region.binds .any e = true → e.on ≠ i := fun e he hb heq => hiun (heq ▸ hall e he hb)
      have hlv : stillK P oj = true ∨ growK G oj = true := (hst j oj hoj hjun).elim id fun h => absurd (hcl.readyWaits hj h) hiun
      have h2 := okOpS_putW hoj (hfree j oj hoj hji hjun hnot) (fun cs b => hsel i oi cs b hi) (fun cs b => hsel j oj cs b hoj) hlv hy h1
      have back : ∀ k, (listed.setIfInBounds j true).getD k true = false → listed.getD k true = false := fun k hun => by
        by_cases hjk : j = k
        · subst hjk; exact hjun
        · rw [getD_set_ne true hjk] at hun; exact hun
      refine okOpS_mono (fun a' w' h3 => ih (listed.setIfInBounds j true) a' w' (hcl.set hj) (fun k ok hk hun => hst k ok hk (back k hun)) (fun k ok hk hki hun hno => hfree k ok hk hki (back k hun) hno) (ready_mono hr (Ne.symm hji)) h3.1 ?_) h2
      rw [Array.setIfInBounds_comm _ _ hji]
      exact h3.2
theorem loadFirst_out {G : Bool} {ops : Array Oper} {listed : Array Bool} {i : Nat} (h : loadFirst P G ops listed i = true) : (∀ o, ops[i]? = some o → isLoad o.op = true) ∧ ∀ j oj, ops[j]? = some oj → listed.getD j true = false → (stillK P oj = true ∨ growK G oj = true) ∨ waitsT ops i ops.size j = true := by
  unfold loadFirst at h
  rw [Bool.and_eq_true] at h
  refine ⟨fun o ho => by have := h.1; rw [ho] at this; exact this, fun j oj hj hl => ?_⟩
  have := List.all_eq_true.1 h.2 j (List.mem_range.2 (Array.getElem?_eq_some_iff.1 hj).1)
  rw [hl, Bool.false_or, Bool.or_eq_true, Bool.or_eq_true] at this
  rcases this with (h1 | h1) | h1
  · left; left
    unfold stillAt at h1
    rw [hj] at h1
    exact h1
  · left; right
    unfold newAt callAt at h1
    rw [hj] at h1
    exact h1
  · exact .inr h1
theorem load_runs {o : Oper} {a : Act} {w : World} {K : Value → World → Prop} (hl : isLoad o.op = true) (h : opV C P o a.eval w K) : ∃ v, (∀ w', Grow w w' → (execOp a.eval o).run P w' = .ok (.value v) w') ∧ K v w := by
  unfold isLoad at hl
  split at hl
  · rename_i t x hop
    have hp : lenPure P o.op = false := by rw [hop]; rfl
    unfold opV at h
    rw [hp] at h
    unfold effV at h
    rw [hop] at h
    obtain ⟨v, hr, hk⟩ := loadV_ok h
    refine ⟨v, fun w' hg => ?_, hk⟩
    simp only [execOp, hop]
    have := hr w' (fun _ _ h => hg.cell h)
    simp [this]
  · cases hl
theorem new_runs {o : Oper} {a : Act} {w : World} {K : Value → World → Prop} (hl : isNew o.op = true) (h : opV C P o a.eval w K) : ∃ v w', (execOp a.eval o).run P w = .ok (.value v) w' ∧ Grow w w' ∧ K v w' := by
  unfold isNew at hl
  split at hl
  · rename_i e hop
    have hp : lenPure P o.op = false := by rw [hop]; rfl
    unfold opV at h
    rw [hp] at h
    unfold effV at h
    rw [hop] at h
    have h : allocV P e w K := h
    simp only [execOp, hop]
    unfold allocV at h
    split at h
    · rename_i i hi
      split at h
      · rename_i z hz
        refine ⟨.pointer (some ⟨w.heap.size, 0, none⟩), w.alloc (.cells z.cells e), ?_, (Grow.refl w).alloc _, h _ rfl⟩
        simp [Instr.alloc, zeroValue, typeInfo, hi, hz, newVar, newRow]
      · exact h.elim
    · exact h.elim
  · rename_i e x hop
    have hp : lenPure P o.op = false := by rw [hop]; rfl
    unfold opV at h
    rw [hp] at h
    unfold effV at h
    rw [hop] at h
    have h : boxV P e (a.eval x) w K := h
    simp only [execOp, hop]
    unfold boxV at h
    split at h
    · obtain ⟨cs, hx, hk⟩ := h
      exact ⟨.pointer (some ⟨w.heap.size, 0, none⟩), w.alloc (.cells cs e), by simp [Instr.box, newVar, newRow, Value.cells, hx], (Grow.refl w).alloc _, hk _ rfl⟩
    · obtain ⟨cs, hx, hk⟩ := h
      exact ⟨.pointer (some ⟨w.heap.size, 0, none⟩), w.alloc (.cells cs e), by simp [Instr.box, newVar, newRow, Value.cells, hx], (Grow.refl w).alloc _, hk _ rfl⟩
    · obtain ⟨hx, hk⟩ := oneK_out h
      exact ⟨.pointer (some ⟨w.heap.size, 0, none⟩), w.alloc (.cells #[a.eval x] e), by simp [Instr.box, newVar, newRow, hx.1], (Grow.refl w).alloc _, hk _ rfl⟩
    · exact h.elim
  · cases hl
theorem grw_no {G : Bool} {o : Oper} {w : World} {K : Value → World → Prop} (h : isCallV o.op = false) : grw G o w K = K := by
  unfold grw
  rw [h, Bool.and_false]
theorem pure_notCall {o : Op} (h : lenPure P o = true) : isCallV o = false := by
  cases hc : isCallV o with
  | false => rfl
  | true =>
    unfold isCallV at hc
    split at hc <;> first | cases h | cases hc
theorem load_notCall {o : Op} (h : isLoad o = true) : isCallV o = false := by
  cases hc : isCallV o with
  | false => rfl
  | true =>
    unfold isCallV at hc
    split at hc <;> first | cases h | cases hc
theorem vAnyL_ok (hC : ∀ f, C f = true → Callable P f) {G : Bool} {ops : Array Oper} {sp : List Nat} {K K' : Act → World → Prop} {W : List Nat} {a0 : Act}
    (hns : Region.noSelect ops = true) (hd : ∀ o ∈ ops.toList, ∀ t, o.dst = some t → t ∈ W) (hK : ∀ a w, Agree W a0 a → K a w → K' a w) :
    ∀ (f : Nat) (listed : Array Bool) (a : Act) (w : World), Closed ops listed → Agree W a0 a → vAnyL C P G ops sp K f listed a w → okAnyS P G ops K' f listed a w := by
  have hmem : ∀ {i : Nat} {o : Oper}, ops[i]? = some o → o ∈ ops.toList := fun {i o} h => by
    rw [← Array.getElem?_toList] at h
    exact List.mem_of_getElem? h
  intro f
  induction f with
  | zero =>
    intro listed a w hcl ha h
    unfold vAnyL at h
    split at h
    · rename_i hr; exact ⟨hr, hK a w ha h⟩
    · exact h.elim
  | succ f ih =>
    intro listed a w hcl ha h
    unfold vAnyL at h
    split at h
    · rename_i hr
      exact ⟨fun _ => hK a w ha h, fun i hi => by rw [hr] at hi; cases hi⟩
    · rename_i hne
      split at h
      · rename_i i hfind
        have hir : i ∈ Region.ready .any ops listed := List.mem_of_find?_eq_some hfind
        split at h
        · rename_i o ho hfree
          have hy : ∀ {v}, YieldsP P ops o v a → okAnyS P G ops K' f (listed.setIfInBounds i true) (a.put o.dst v) w → okAnyS P G ops K' (f + 1) listed a w := fun hy h' =>
            okAnyS_first ho (Region.noSelect_spec hns) f listed a w (Region.free_spec ho hfree) hir hy h'
          have hag : ∀ v, Agree W a0 (a.put o.dst v) := fun v => ha.trans (agree_put (hd o (hmem ho)) v)
          split at h
          · rename_i hw
            obtain ⟨v, hr, hk⟩ := pureV_runs h
            exact hy (.inl ⟨hw, hr⟩) (ih _ _ _ (hcl.set hir) (hag v) (spl_out hk))
          · rename_i hw
            exact hy (.inr ⟨hw, rfl⟩) (ih _ _ _ (hcl.set hir) (hag undef) h)
        · exact h.elim
      · split at h
        · rename_i i hfind
          have hir : i ∈ Region.ready .any ops listed := List.mem_of_find?_eq_some hfind
          obtain ⟨hld, hst⟩ := loadFirst_out (List.find?_some hfind)
          split at h
          · rename_i o ho hfree
            have hy : ∀ {v}, YieldsW P ops o v a w → okAnyS P G ops K' f (listed.setIfInBounds i true) (a.put o.dst v) w → okAnyS P G ops K' (f + 1) listed a w := fun hy h' =>
              okAnyS_firstL ho (Region.noSelect_spec hns) f listed a w hcl hst (Region.free_spec ho hfree) hir hy h'
            have hag : ∀ v, Agree W a0 (a.put o.dst v) := fun v => ha.trans (agree_put (hd o (hmem ho)) v)
            split at h
            · rename_i hw
              obtain ⟨v, hr, hk⟩ := load_runs (hld o ho) h
              exact hy (.inl ⟨hw, hr⟩) (ih _ _ _ (hcl.set hir) (hag v) (spl_out hk))
            · rename_i hw
              exact hy (.inr ⟨hw, rfl⟩) (ih _ _ _ (hcl.set hir) (hag undef) h)
          · exact h.elim
        · refine ⟨fun h0 => absurd h0 hne, fun i hi => ?_⟩
          have hi' := allN_mem h i hi
          unfold okOpS
          split at hi'
          · rename_i o ho
            have hag : ∀ v, Agree W a0 (a.put o.dst v) := fun v => ha.trans (agree_put (hd o (hmem ho)) v)
            simp only [ho]
            split at hi'
            · rename_i hw
              rw [if_pos hw]
              split
              · rename_i hs
                unfold stillK at hs
                cases hp : lenPure P o.op with
                | true =>
                  rw [grw_no (pure_notCall hp)] at hi'
                  unfold opV at hi'
                  rw [hp] at hi'
                  obtain ⟨v, hr, hk⟩ := pureV_runs hi'
                  exact ⟨v, hr w, ih _ _ _ (hcl.set hi) (hag v) (spl_out hk)⟩
                | false =>
                  rw [hp, Bool.false_or] at hs
                  rw [grw_no (load_notCall hs)] at hi'
                  obtain ⟨v, hr, hk⟩ := load_runs hs hi'
                  exact ⟨v, hr w (Grow.refl w), ih _ _ _ (hcl.set hi) (hag v) (spl_out hk)⟩
              · split
                · rename_i hn
                  cases hcv : (G && isCallV o.op) with
                  | true =>
                    unfold grw at hi'
                    rw [hcv] at hi'
                    exact (opV_ok hC (hρ a) hi').mono fun v w' hk => ⟨hk.1, ih _ _ _ (hcl.set hi) (hag v) (spl_out hk.2)⟩
                  | false =>
                    unfold grw at hi'
                    rw [hcv] at hi'
                    unfold growK at hn
                    rw [hcv, Bool.or_false] at hn
                    obtain ⟨v, w', hr, hg, hk⟩ := new_runs hn hi'
                    rw [hr]
                    exact ⟨hg, ih _ _ _ (hcl.set hi) (hag v) (spl_out hk)⟩
                · rename_i hn
                  have hcv : (G && isCallV o.op) = false := by
                    unfold growK at hn
                    cases h9 : (G && isCallV o.op) with
                    | false => rfl
                    | true => rw [h9, Bool.or_true] at hn; exact absurd rfl hn
                  unfold grw at hi'
                  rw [hcv] at hi'
                  exact (opV_ok hC (hρ a) hi').mono fun v w' hk => ih _ _ _ (hcl.set hi) (hag v) (spl_out hk)
            · rename_i hw
              rw [if_neg (by rw [hw]; decide)]
              exact ih _ _ _ (hcl.set hi) (hag undef) hi'
          · exact hi'.elim
theorem closed0 (ops : Array Oper) : Closed ops (Array.replicate ops.size false) := ⟨by simp, fun j oj _ h => by
  have : (Array.replicate ops.size false).getD j false = false := by
    rcases Nat.lt_or_ge j ops.size with h' | h' <;> simp [h']
  rw [this] at h
  cases h⟩
theorem vRegion_wp (hC : ∀ f, C f = true → Callable P f) (hm : P.follows .mixedOrders = true) {r : RH} {id : Nat} {ops : Array Oper} {draw : Bool} {K : Act → World → Prop} {Q : Exit → Act → World → Prop} {a : Act} {w : World}
    (hok : rOk r ops draw = true) (hK : ∀ a' w', Agree (dsts ops.toList) a a' → K a' w' → Q .normal a' w') (h : vRegion C P r ops draw K a w) : (Code.region id ops draw).wp P Q a w := by
  have hd : ∀ o ∈ ops.toList, ∀ t, o.dst = some t → t ∈ dsts ops.toList := fun o ho t ht => mem_dsts ho ht
  unfold vRegion at h
  split at h
  · exact wp_region_list (vOps_wp hC hK _ _ _ _ hd (Agree.refl _ _) h)
  · refine wp_region_quiet (C := cls false w) hm hok ⟨⟨_, Nat.le_succ _⟩, rfl⟩ ?_
    refine vQ_wp hC (fun a' ha' hk => ?_) _ _ _ hd (Agree.refl _ _) h
    rintro w' ⟨m, rfl⟩
    exact hK _ _ ha' (hk m)
  · refine wp_region_quiet (C := cls true w) hm hok ((Grow.refl w).dr _) ?_
    refine vQ_wp hC (fun a' ha' hk => ?_) _ _ _ hd (Agree.refl _ _) h
    exact fun w' hw' => hK _ _ ha' (hk w' hw')
  · refine wp_region_any hm (okAny_wp (K := fun a' w' => Q .normal a' w') (fun _ _ h => h) _ _ _ _ ?_)
    exact vAny_ok hC hok hd hK _ _ _ _ (Agree.refl _ _) (h ⟨_, Nat.le_succ _⟩)
  · rename_i G sp
    refine wp_region_any hm (okAnyS_wp (G := G) (K := fun a' w' => Q .normal a' w') (fun _ _ h => h) _ _ _ _ ?_)
    exact vAnyL_ok hC hok hd hK _ _ _ _ (closed0 ops) (Agree.refl _ _) (h ⟨_, Nat.le_succ _⟩)
  · exact h.elim

/-! ### Code -/
theorem junkA_size (j : Nat → Value) : ∀ (W : List Nat) (t : Array Value), (junkA j W t).size = t.size
  | [], _ => rfl
  | i :: r, t => by simp [junkA, junkA_size j r]
theorem junkA_get (j : Nat → Value) : ∀ (W : List Nat) (t t' : Array Value), t'.size = t.size → (∀ i, i ∉ W → t'[i]? = t[i]?) → (∀ i, i ∈ W → j i = t'.getD i undef) → junkA j W t = t'
  | [], t, t', hs, h, _ => by
    apply Array.ext_getElem?
    intro i
    exact (h i (by simp)).symm
  | i :: r, t, t', hs, h, hj => by
    unfold junkA
    refine junkA_get j r _ t' (by simp [hs]) (fun k hk => ?_) (fun k hk => hj k (List.mem_cons_of_mem _ hk))
    by_cases e : i = k
    · subst e
      have := hj i (List.mem_cons_self ..)
      rw [Array.getElem?_setIfInBounds_self]
      by_cases hlt : i < t.size
      · rw [if_pos hlt, this]
        have : i < t'.size := by omega
        simp [this]
      · rw [if_neg hlt]
        simp; omega
    · rw [Array.getElem?_setIfInBounds_ne e]
      exact h k (by simp [hk]; exact fun h => e h.symm)
theorem junk_of_agree {W : List Nat} {a a' : Act} (h : Agree W a a') : ({ a with tmps := junkA (fun i => a'.tmps.getD i undef) W a.tmps } : Act) = a' := by
  have := junkA_get (fun i => a'.tmps.getD i undef) W a.tmps a'.tmps h.size h.same (fun _ _ => rfl)
  rw [this, ← h.defers]
theorem set_same {t : Array Value} {i : Nat} {v : Value} (h : t.getD i undef = v) : t.setIfInBounds i v = t := by
  apply Array.ext_getElem?
  intro k
  by_cases e : i = k
  · subst e
    rw [Array.getElem?_setIfInBounds_self]
    by_cases hlt : i < t.size
    · simp [hlt] at h ⊢; exact h.symm
    · simp [hlt]
  · rw [Array.getElem?_setIfInBounds_ne e]
/-- Where the slots read as the predicate asks, the frame is one of those that the round is proved of. -/
theorem allC_out : ∀ {L : List (Nat × VK)} {I : KPred L} {a : Act} {f : Act → (World → Prop) → Prop} {w : World}, allC L I a f → readS L I a w → ∃ I1 : World → Prop, f a I1 ∧ I1 w
  | [], I, a, f, w, h, hr => ⟨I, h, hr⟩
  | (i, k) :: r, I, a, f, w, h, hr => by
    obtain ⟨x, hx, hr'⟩ := VK.get_out hr
    have := h x
    rw [set_same hx] at this
    exact allC_out this hr'
def VK.un : (k : VK) → Value → k.T
  | .int _, .int _ n => n
  | .int _, _ => (0 : Int)
  | .bool, .bool b => b
  | .bool, _ => false
  | .raw, v => v
  | .ptr, .pointer (some a) => a
  | .ptr, _ => (⟨0, 0, none⟩ : Addr)
theorem VK.un_val (k : VK) (x : k.T) : k.un (k.val x) = x := by cases k <;> rfl
def measS : (L : List (Nat × VK)) → KMeas L → Act → World → Nat
  | [], μ, _ => asN μ
  | (i, k) :: r, μ, a => measS r (μ (k.un (a.tmps.getD i undef))) a
theorem allS_out : ∀ {L : List (Nat × VK)} {I : KPred L} {μ : KMeas L} {a : Act} {f : Act → (World → Prop) → (World → Nat) → Prop} {w : World}, allS L I μ a f → readS L I a w →
    ∃ I1 : World → Prop, f a I1 (measS L μ a) ∧ I1 w
  | [], I, μ, a, f, w, h, hr => ⟨I, h, hr⟩
  | (i, k) :: r, I, μ, a, f, w, h, hr => by
    obtain ⟨x, hx, hr'⟩ := VK.get_out hr
    have h1 := h x
    rw [set_same hx] at h1
    unfold measS
    rw [hx, VK.un_val]
    exact allS_out h1 hr'
theorem readM_out : ∀ {L : List (Nat × VK)} {I : KPred L} {μ : KMeas L} {a : Act} {m : Nat} {w : World}, readM L I μ a m w → readS L I a w ∧ measS L μ a w < m
  | [], _, _, _, _, _, h => h
  | (i, k) :: r, I, μ, a, m, w, h => by
    obtain ⟨x, hx, h'⟩ := VK.get_out h
    obtain ⟨h1, h2⟩ := readM_out h'
    unfold readS measS
    rw [hx, VK.un_val]
    exact ⟨VK.get_in h1, h2⟩
theorem vc_wp (hC : ∀ f, C f = true → Callable P f) (hm : P.follows .mixedOrders = true) : ∀ (h : HT) (c : Code) (Q : Exit → Act → World → Prop) (a : Act) (w : World), vcOk P h c = true → vc C P h c Q a w →
    c.wp P (fun e a' w' => Q e a' w' ∧ Agree (written c) a a') a w := by
  intro h c
  induction c generalizing h with
  | skip => intro Q a w _ hv; exact wp_skip ⟨by cases h <;> exact hv, Agree.refl _ _⟩
  | exit id => intro Q a w _ hv; exact wp_exit ⟨by cases h <;> exact hv, Agree.refl _ _⟩
  | ret => intro Q a w _ hv; exact wp_ret ⟨by cases h <;> exact hv, Agree.refl _ _⟩
  | region id ops draw =>
    intro Q a w hok hv
    cases h
    case region r => exact vRegion_wp hC hm hok (fun a' w' ha hq => ⟨hq, ha⟩) hv
    all_goals exact (show False from hv).elim
  | seq x y ihx ihy =>
    intro Q a w hok hv
    cases h
    case seq cut h1 h2 =>
      simp only [vcOk, Bool.and_eq_true] at hok
      have mx : ∀ i, i ∈ written x → i ∈ written (Code.seq x y) := fun i hi => List.mem_append_left _ hi
      have my : ∀ i, i ∈ written y → i ∈ written (Code.seq x y) := fun i hi => List.mem_append_right _ hi
      cases cut with
      | none =>
        refine wp_seq (wp_mono (ihx h1 _ a w hok.1 hv) ?_)
        rintro e a' w' ⟨hq, ha⟩
        cases e
        case normal =>
          refine wp_mono (ihy h2 _ a' w' hok.2 hq) ?_
          rintro e a2 w2 ⟨hq2, ha2⟩
          exact ⟨hq2, (ha.mono mx).trans (ha2.mono my)⟩
        all_goals exact ⟨hq, ha.mono mx⟩
      | some L =>
        obtain ⟨J, hx, hy⟩ := hv
        refine wp_seq (wp_mono (ihx h1 _ a w hok.1 hx) ?_)
        rintro e a' w' ⟨hq, ha⟩
        cases e
        case normal =>
          have h3 := hy fun i => a'.tmps.getD i undef
          rw [junk_of_agree ha] at h3
          obtain ⟨J1, h4, h5⟩ := allC_out h3 hq
          refine wp_mono (ihy h2 _ a' w' hok.2 (h4 w' h5)) ?_
          rintro e a2 w2 ⟨hq2, ha2⟩
          exact ⟨hq2, (ha.mono mx).trans (ha2.mono my)⟩
        all_goals exact ⟨hq, ha.mono mx⟩
    all_goals exact (show False from hv).elim
  | cond cd x y ihx ihy =>
    intro Q a w hok hv
    cases h
    case cond h1 h2 =>
      simp only [vcOk, Bool.and_eq_true] at hok
      unfold vc at hv
      split at hv
      · rename_i b hb
        refine wp_cond hb ?_
        cases b
        · exact wp_mono (ihy h2 Q a w hok.2 hv) fun e a' w' ⟨hq, ha⟩ => ⟨hq, ha.mono fun i hi => List.mem_append_right _ hi⟩
        · exact wp_mono (ihx h1 Q a w hok.1 hv) fun e a' w' ⟨hq, ha⟩ => ⟨hq, ha.mono fun i hi => List.mem_append_left _ hi⟩
      · exact hv.elim
    all_goals exact (show False from hv).elim
  | block id c ih =>
    intro Q a w hok hv
    cases h
    case block h =>
      refine wp_block (wp_mono (ih h _ a w hok hv) ?_)
      rintro e a' w' ⟨hq, ha⟩
      cases e
      case exit id' =>
        unfold Exit.inBlock at hq ⊢
        dsimp only at hq ⊢
        split <;> rename_i hid
        · rw [if_pos hid] at hq; exact ⟨hq, ha⟩
        · rw [if_neg hid] at hq; exact ⟨hq, ha⟩
      all_goals exact ⟨hq, ha⟩
    all_goals exact (show False from hv).elim
  | loop c ih =>
    intro Q a w hok hv
    cases h
    case loop L h =>
      obtain ⟨I, μ, h0, hr⟩ := hv
      refine wp_loop (fun a' w' => Agree (written c) a a' ∧ readS L I a' w') (fun a' w' => measS L μ a' w') ⟨Agree.refl _ _, h0⟩ ?_
      rintro a1 w1 ⟨ha, hi⟩
      have h1 := hr fun i => a1.tmps.getD i undef
      rw [junk_of_agree ha] at h1
      obtain ⟨I1, h2, h3⟩ := allS_out h1 hi
      refine wp_mono (ih h _ a1 w1 hok (h2 w1 h3)) ?_
      rintro e a2 w2 ⟨hq, ha2⟩
      cases e
      case normal =>
        obtain ⟨h4, h5⟩ := readM_out hq
        exact ⟨⟨ha.trans ha2, h4⟩, h5⟩
      all_goals exact ⟨hq, ha.trans ha2⟩
    all_goals exact (show False from hv).elim
  | rangeFunc f ps x y => intro Q a w _ hv; cases h <;> exact (show False from hv).elim
  | scope c => intro Q a w _ hv; cases h <;> exact (show False from hv).elim
  | label l => intro Q a w _ hv; cases h <;> exact (show False from hv).elim
  | goto l => intro Q a w _ hv; cases h <;> exact (show False from hv).elim
  | refuse s => intro Q a w _ hv; cases h <;> exact (show False from hv).elim

/-! ### Calls -/
def retV : List ResultVar → Act → Option (List Value)
  | [], _ => some []
  | .tmp t :: r, a => (retV r a).map fun vs => a.tmps.getD t undef :: vs
  | .cell .. :: _, _ => none
def retQ (P : Program) (rs : List ResultVar) (R : Ending → World → Prop) : Exit → Act → World → Prop
  | .ret, a, w | .normal, a, w => match rs with
    | [.tmp t] => R (.returned (a.tmps.getD t undef)) w
    | [.cell t ty] => loadV P ty (a.tmps.getD t undef) w fun v => R (.returned v) w
    | [.cell t ty, .tmp u] => loadV P ty (a.tmps.getD t undef) w fun v => R (.returned (.tuple #[v, a.tmps.getD u undef])) w
    | rs => match retV rs a with
      | some vs => R (.returned (.tuple vs.toArray)) w
      | none => False
  | _, _, _ => False
def frame0 (ntmps : Nat) (args : Array Value) : Act := { tmps := args ++ Array.replicate (ntmps - args.size) undef, defers := [] }
/-- The condition of a call. -/
def vcCalls (C : Nat → Bool) (P : Program) (fn : Func) (h : HT) (args : Array Value) (w : World) (R : Ending → World → Prop) : Prop :=
  match fn.body with
  | some c => vc C P h c (retQ P fn.results.toList R) (frame0 fn.ntmps args) w
  | none => False
def bodyOk (P : Program) (fn : Func) (h : HT) : Bool := match fn.body with | some c => vcOk P h c | none => false
def resF (t : Array Value) : ResultVar → Sem Value
  | .tmp i => pure (t.getD i undef)
  | .cell i ty => do loadVar ty (← asAddr (t.getD i undef))
theorem results_eq (fn : Func) (t : Array Value) : results fn t = (do let vs ← fn.results.mapM (resF t); pure (if h : vs.size = 1 then vs[0] else .tuple vs)) := by
  unfold results
  congr 1
theorem retV_run {a : Act} {w : World} : ∀ {rs : List ResultVar} {vs : List Value}, retV rs a = some vs → (rs.mapM (resF a.tmps)).run P w = .ok vs w
  | [], vs, h => by simp [retV] at h; subst h; simp
  | .tmp t :: r, vs, h => by
    simp only [retV, Option.map_eq_some_iff] at h
    obtain ⟨us, hu, rfl⟩ := h
    have := retV_run (w := w) hu
    simp only [List.mapM_cons, Sem.run_bind, resF, Sem.run_pure, Result.andThen_ok, this]
  | .cell .. :: _, vs, h => by simp [retV] at h
theorem results_of {fn : Func} {rs : List ResultVar} (hrs : fn.results.toList = rs) {t : Array Value} {w : World} {vs : List Value} (h : (rs.mapM (resF t)).run P w = .ok vs w) :
    (results fn t).run P w = .ok (if h : vs.toArray.size = 1 then vs.toArray[0] else .tuple vs.toArray) w := by
  have e : fn.results = rs.toArray := by apply Array.ext'; simpa using hrs
  rw [results_eq, e]
  simp only [Sem.run_bind, List.mapM_toArray, Sem.run_map, h, Result.andThen_ok, Sem.run_pure]
theorem retV_length {a : Act} : ∀ {rs : List ResultVar} {vs : List Value}, retV rs a = some vs → rs.length = vs.length
  | [], vs, h => by simp [retV] at h; subst h; rfl
  | .tmp t :: r, vs, h => by
    simp only [retV, Option.map_eq_some_iff] at h
    obtain ⟨us, hu, rfl⟩ := h
    simp [retV_length hu]
  | .cell .. :: _, vs, h => by simp [retV] at h
theorem cell_run {a : Act} {w : World} {t : Nat} {ty : TypeId} {v : Value} {rs : List ResultVar} {vs : List Value} (hl : (Instr.loadAt ty (a.tmps.getD t undef)).run P w = .ok v w) (hr : retV rs a = some vs) :
    ((.cell t ty :: rs).mapM (resF a.tmps)).run P w = .ok (v :: vs) w := by
  have h1 : (resF a.tmps (.cell t ty)).run P w = .ok v w := by
    show (do loadVar ty (← asAddr (a.tmps.getD t undef)) : Sem Value).run P w = _
    unfold Instr.loadAt at hl
    generalize a.tmps.getD t undef = x at *
    cases x <;> try (simp [Instr.sureAddr] at hl; done)
    rename_i o
    cases o
    · simp [Instr.sureAddr] at hl
    · simpa [Instr.sureAddr, asAddr] using hl
  simp only [List.mapM_cons, Sem.run_bind, h1, Result.andThen_ok, retV_run hr, Sem.run_pure]
theorem calls_of_vc (hC : ∀ f, C f = true → Callable P f) (hm : P.follows .mixedOrders = true) {f : FuncId} {fn : Func} (hf : P.funcs[f]? = some fn) {h : HT} (hok : bodyOk P fn h = true)
    {args : Array Value} {w : World} {R : Ending → World → Prop} (hv : vcCalls C P fn h args w R) : Calls P f args w R := by
  unfold vcCalls at hv
  unfold bodyOk at hok
  cases hb : fn.body with
  | none => rw [hb] at hv; exact hv.elim
  | some c =>
    rw [hb] at hv hok
    refine calls_of_wp hf hb (wp_mono (vc_wp hC hm h c _ _ _ hok hv) ?_)
    rintro e a w' ⟨hq, ha⟩
    have key : e = .ret ∨ e = .normal → retQ P fn.results.toList R .ret a w' → a.defers = [] ∧ ∃ v, (results fn a.tmps).run P w' = .ok v w' ∧ R (.returned v) w' := by
      intro _ hq
      refine ⟨ha.defers, ?_⟩
      unfold retQ at hq
      dsimp only at hq
      split at hq
      · rename_i t hrs
        exact ⟨_, results_of hrs (vs := [a.tmps.getD t undef]) (retV_run rfl), hq⟩
      · rename_i t ty hrs
        obtain ⟨v, hl, hk⟩ := loadV_ok hq
        have hl := hl w' fun _ _ h => h
        exact ⟨_, results_of hrs (vs := [v]) (cell_run hl rfl), hk⟩
      · rename_i t ty u hrs
        obtain ⟨v, hl, hk⟩ := loadV_ok hq
        have hl := hl w' fun _ _ h => h
        exact ⟨_, results_of hrs (vs := [v, a.tmps.getD u undef]) (cell_run hl rfl), hk⟩
      · split at hq
        · rename_i h1 _ _ vs hvs
          refine ⟨_, results_of rfl (retV_run hvs), ?_⟩
          have : vs.toArray.size ≠ 1 := by
            intro e
            have hl := retV_length hvs
            simp at e
            rw [e] at hl
            match hrs : fn.results.toList, hl with
            | [.tmp t], _ => exact ‹∀ (t : Tmp), fn.results.toList = [ResultVar.tmp t] → False› t hrs
            | [.cell t ty], _ => rw [hrs] at hvs; simp [retV] at hvs
          rw [dif_neg this]
          exact hq
        · exact hq.elim
    cases e
    case ret => exact key (.inl rfl) hq
    case normal => exact key (.inr rfl) hq
    all_goals exact (show False from hq).elim
theorem calls_of_eq (hC : ∀ f, C f = true → Callable P f) (hm : P.follows .mixedOrders = true) {f : FuncId} {fn : Func} (hf : P.funcs[f]? = some fn) {h : HT} (hok : bodyOk P fn h = true)
    {args : Array Value} {w : World} {R : Ending → World → Prop} {V : Prop} (he : vcCalls C P fn h args w R = V) (hv : V) : Calls P f args w R :=
  calls_of_vc hC hm hf hok (he ▸ hv)
end Go.Proofs.Ytleiddajojgmmaa.VC
