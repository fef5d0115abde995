/- The abstract machine, part 1: what a function of the program does is told by a run on plain data; the one theorem is that this run tells the truth (Go.Am.call_ok), whatever the world is. -/
import Derived.Test.YtaheamdoldiojaaKAm0
import Derived.ScopeJumps
import Derived.Deep.Slices
import Derived.OpenShut
set_option linter.unusedVariables false
set_option linter.unusedSimpArgs false
namespace Go.Am
open Go

/-! ### Who must have come before -/
theorem fold_bits {acc : List Nat} {i : Nat} : ∀ (l : List Edge) (s : Nat), (l.foldl (fun s e => if binds e then s ||| 2 ^ e.on ||| acc.getD e.on 0 else s) s).testBit i = true →
    s.testBit i = true ∨ ∃ e ∈ l, binds e = true ∧ (i = e.on ∨ (acc.getD e.on 0).testBit i = true)
  | [], s, h => .inl h
  | e :: l, s, h => by
    rw [List.foldl_cons] at h
    rcases fold_bits l _ h with h | ⟨e', h1, h2⟩
    · split at h
      · rename_i hb
        simp only [Nat.testBit_or, Bool.or_eq_true, Nat.testBit_two_pow, decide_eq_true_eq] at h
        rcases h with (h | h) | h
        · exact .inl h
        · exact .inr ⟨e, List.mem_cons_self .., hb, .inl h.symm⟩
        · exact .inr ⟨e, List.mem_cons_self .., hb, .inr h⟩
      · exact .inl h
    · exact .inr ⟨e', List.mem_cons_of_mem _ h1, h2⟩

def AncP (ops : List Oper) (A : List Nat) : Prop :=
  ∀ j o, ops[j]? = some o → j < A.length → ∀ i, (A.getD j 0).testBit i = true → ∃ e ∈ o.after.toList, binds e = true ∧ (i = e.on ∨ (e.on < j ∧ (A.getD e.on 0).testBit i = true))
theorem ancs_go : ∀ (l pre : List Oper) (acc : List Nat), acc.length = pre.length → AncP (pre ++ l) acc → AncP (pre ++ l) (ancs l acc) ∧ (ancs l acc).length = pre.length + l.length
  | [], pre, acc, hl, h => ⟨h, by simp [ancs, hl]⟩
  | o :: l, pre, acc, hl, h => by
    have e : pre ++ o :: l = (pre ++ [o]) ++ l := by simp
    unfold ancs
    have := ancs_go l (pre ++ [o]) (acc ++ [o.after.toList.foldl (fun s e => if binds e then s ||| 2 ^ e.on ||| acc.getD e.on 0 else s) 0]) (by simp [hl]) (by
      rw [← e]
      intro j o' ho hj i hi
      have low : ∀ x, x < acc.length → (acc ++ [o.after.toList.foldl (fun s e => if binds e then s ||| 2 ^ e.on ||| acc.getD e.on 0 else s) 0]).getD x 0 = acc.getD x 0 := fun x hx => by
        rw [List.getD_eq_getElem?_getD, List.getD_eq_getElem?_getD, List.getElem?_append_left hx]
      by_cases q : j < acc.length
      · rw [low j q] at hi
        obtain ⟨e', h1, h2, h3⟩ := h j o' ho q i hi
        refine ⟨e', h1, h2, h3.imp id fun ⟨h4, h5⟩ => ⟨h4, ?_⟩⟩
        rw [low _ (by omega)]
        exact h5
      · have hj' : j = acc.length := by simp at hj; omega
        subst hj'
        rw [List.getD_eq_getElem?_getD, List.getElem?_append_right (Nat.le_refl _)] at hi
        simp only [Nat.sub_self, List.getElem?_cons_zero, Option.getD_some] at hi
        rw [hl, List.getElem?_append_right (Nat.le_refl _)] at ho
        simp only [Nat.sub_self, List.getElem?_cons_zero, Option.some.injEq] at ho
        subst ho
        rcases fold_bits _ _ hi with h1 | ⟨e', h1, h2, h3⟩
        · simp at h1
        · refine ⟨e', h1, h2, h3.imp id fun h4 => ?_⟩
          have : e'.on < acc.length := by
            rcases Nat.lt_or_ge e'.on acc.length with q | q
            · exact q
            · rw [List.getD_eq_getElem?_getD, List.getElem?_eq_none q] at h4
              simp at h4
          refine ⟨this, ?_⟩
          rw [low _ this]
          exact h4)
    rw [← e] at this
    refine ⟨this.1, ?_⟩
    rw [this.2]
    simp
    omega
theorem ancs_ok (ops : List Oper) : AncP ops (ancs ops []) ∧ (ancs ops []).length = ops.length := by
  have := ancs_go ops [] [] rfl (fun j o h hj => by simp at hj)
  simpa using this

theorem anc_closed {ops : List Oper} {L : Nat → Prop} (hL : ∀ j o, ops[j]? = some o → L j → ∀ e ∈ o.after.toList, binds e = true → L e.on) :
    ∀ (j : Nat) (o : Oper), ops[j]? = some o → (∀ e ∈ o.after.toList, binds e = true → L e.on) → ∀ i, ((ancs ops []).getD j 0).testBit i = true → L i := by
  intro j
  induction j using Nat.strongRecOn with
  | ind j ih =>
    intro o ho he i hi
    have hlt := (List.getElem?_eq_some_iff.1 ho).1
    obtain ⟨e, h1, h2, h3⟩ := (ancs_ok ops).1 j o ho (by rw [(ancs_ok ops).2]; exact hlt) i hi
    rcases h3 with rfl | ⟨h4, h5⟩
    · exact he e h1 h2
    · have ho' : ops[e.on]? = some ops[e.on] := List.getElem?_eq_getElem (by omega)
      exact ih e.on h4 _ ho' (hL e.on _ ho' (he e h1 h2)) i h5

/-! ### What the checks say -/
structure Static (ops : List Oper) (n : Nat) : Prop where
  edges : ∀ (j : Nat) (o : Oper), ops[j]? = some o → ∀ e ∈ o.after.toList, binds e = true → e.on < j
  pairs : ∀ (i j : Nat) (oi oj : Oper), ops[i]? = some oi → ops[j]? = some oj → i < j → ((ancs ops []).getD j 0).testBit i = true ∨ ∀ t, oi.dst = some t → t ∉ looks ops oj
  ssa1 : ∀ (i j : Nat) (oi oj : Oper) (t : Tmp), ops[i]? = some oi → ops[j]? = some oj → i < j → oi.dst = some t → oj.dst = some t → ((ancs ops []).getD j 0).testBit i = true
  ssa2 : ∀ (i j : Nat) (oi oj : Oper) (t : Tmp), ops[i]? = some oi → ops[j]? = some oj → i < j → oj.dst = some t → t ∈ looks ops oi → ((ancs ops []).getD j 0).testBit i = true
  ssa3 : ∀ (i j : Nat) (oi oj : Oper) (t : Tmp), ops[i]? = some oi → ops[j]? = some oj → i ≤ j → oj.dst = some t → loadOp oi.op = true → t ∉ looks ops oi
  tail : ∀ (i j : Nat) (oi oj : Oper), ops[i]? = some oi → ops[j]? = some oj → i < j → n ≤ j → pureOp oj.op = false →
    pureOp oi.op = true ∨ (i < n ∧ calmOp oi.op = true) ∨ ((ancs ops []).getD j 0).testBit i = true ∨ (i < n ∧ loadOp oi.op = true ∧ storeOp oj.op = true)
  nosel : NoSel ops
  hn : n ≤ ops.length

theorem getD_ops {ops : List Oper} {j : Nat} {o : Oper} (h : ops[j]? = some o) : ops.getD j default = o := by rw [List.getD_eq_getElem?_getD, h]; rfl
theorem tailAt_le (ops : List Oper) (an : List Nat) : ∀ f n, tailAt ops an f n ≤ n + f
  | 0, n => Nat.le_refl _
  | f + 1, n => by
    unfold tailAt
    split
    · omega
    · have := tailAt_le ops an f (n + 1)
      omega
theorem static_ok {ops : List Oper} {n : Nat} (hn : n ≤ ops.length) (h : (edgesOk ops && pairsOk ops (ancs ops []) && ssaOk ops (ancs ops []) && noSelB ops && tailOk ops (ancs ops []) n) = true) : Static ops n := by
  simp only [Bool.and_eq_true] at h
  obtain ⟨⟨⟨⟨h1, h2⟩, h3⟩, h4⟩, h5⟩ := h
  have lt : ∀ {j : Nat} {o : Oper}, ops[j]? = some o → j ∈ List.range ops.length := fun h => List.mem_range.2 (List.getElem?_eq_some_iff.1 h).1
  have ssa : ∀ (i j : Nat) (oi oj : Oper) (t : Tmp), ops[i]? = some oi → ops[j]? = some oj → i ≤ j → oj.dst = some t →
      ((i < j ∧ ((ancs ops []).getD j 0).testBit i = true) ∨ ((i = j ∨ oi.dst ≠ some t) ∧ (i = j ∨ t ∉ looks ops oi))) ∧ (loadOp oi.op = false ∨ t ∉ looks ops oi) := by
    intro i j oi oj t hi hj hij ht
    have := List.all_eq_true.1 h3 j (lt hj)
    rw [getD_ops hj, ht] at this
    have := List.all_eq_true.1 this i (List.mem_range.2 (by omega))
    rw [getD_ops hi] at this
    simpa using this
  refine ⟨fun j o ho e he hb => ?_, fun i j oi oj hi hj hij => ?_, fun i j oi oj t hi hj hij h6 h7 => ?_, fun i j oi oj t hi hj hij h6 h7 => ?_, fun i j oi oj t hi hj hij h6 h7 => ?_, fun i j oi oj hi hj hij hnj hp => ?_, noSel_ok h4, hn⟩
  · have := List.all_eq_true.1 h1 j (lt ho)
    rw [getD_ops ho] at this
    have := List.all_eq_true.1 this e he
    simpa [hb] using this
  · have := List.all_eq_true.1 h2 j (lt hj)
    have := List.all_eq_true.1 this i (List.mem_range.2 hij)
    rw [getD_ops hi, getD_ops hj, Bool.or_eq_true] at this
    refine this.imp id fun h t ht => ?_
    rw [ht] at h
    simpa using h
  · rcases (ssa i j oi oj t hi hj (by omega) h7).1 with h | ⟨h, _⟩
    · exact h.2
    · exact (h.resolve_left (by omega) h6).elim
  · rcases (ssa i j oi oj t hi hj (by omega) h6).1 with h | ⟨_, h⟩
    · exact h.2
    · exact (h.resolve_left (by omega) h7).elim
  · exact (ssa i j oi oj t hi hj hij h6).2.resolve_left (by rw [h7]; simp)
  · have := List.all_eq_true.1 h5 j (lt hj)
    rw [getD_ops hj, hp] at this
    simp only [Bool.or_false, Bool.or_eq_true, decide_eq_true_eq] at this
    have := List.all_eq_true.1 (this.resolve_left (by omega)) i (List.mem_range.2 hij)
    rw [getD_ops hi] at this
    simp only [Bool.or_eq_true, Bool.and_eq_true, decide_eq_true_eq] at this
    rcases this with ((h | h) | h) | h
    · exact .inl h
    · exact .inr (.inl h)
    · exact .inr (.inr (.inl h))
    · exact .inr (.inr (.inr ⟨h.1.1, h.1.2, h.2⟩))

/-! ### Guards -/
def guardV (ops : List Oper) (o : Oper) (tm : List D) : Option Bool :=
  match o.guard with
  | none => some true
  | some (j, want) => match (ops[j]?).bind (·.dst) with
    | none => some false
    | some t => match tm.getD t .any with
      | .bool b => some (b == want)
      | .tup [] => some false
      | _ => none
theorem set_id {tm : List D} {t : Nat} {d : D} (h : tm.getD t .any = d) : tm.set t d = tm := by
  apply List.ext_getElem?
  intro j
  rw [List.getElem?_set]
  split
  · rename_i q
    subst q
    split
    · rename_i q2
      rw [List.getD_eq_getElem?_getD, List.getElem?_eq_getElem q2] at h
      rw [List.getElem?_eq_getElem q2]
      simpa using h.symm
    · rw [List.getElem?_eq_none (by omega)]
  · rfl
theorem guardD_spec {ops : List Oper} {o : Oper} {tm : List D} {yes no : List D → Option Res} {r : Res} (h : guardD ops o tm yes no = some r) :
    (guardV ops o tm = some true ∧ yes tm = some r) ∨ (guardV ops o tm = some false ∧ no tm = some r) := by
  unfold guardD at h
  unfold guardV
  split at h
  · rename_i hg
    try rw [hg]
    exact .inl ⟨rfl, h⟩
  · rename_i j want hg
    try rw [hg]
    split at h
    · rename_i hj
      simp only [hj]
      exact .inr ⟨trivial, h⟩
    · rename_i i hj
      simp only [hj]
      split at h
      · rename_i b hb
        simp only [hb]
        rw [show tm.set i (.bool true) = tm.set i (.bool true) from rfl] at h
        cases b <;> cases want <;> simp only [cond_true, cond_false, if_true, if_false, Bool.false_eq_true, set_id hb] at h
        · exact .inl ⟨rfl, h⟩
        · exact .inr ⟨rfl, h⟩
        · exact .inr ⟨rfl, h⟩
        · exact .inl ⟨rfl, h⟩
      · rename_i hb
        simp only [hb]
        exact .inr ⟨trivial, h⟩
      · cases h
theorem guardV_ok {ops : List Oper} {o : Oper} {tm : List D} {b : Bool} (h : guardV ops o tm = some b) {S : Sit} {t : Array Value}
    (hr : ∀ x ∈ looks ops o, R S (tm.getD x .any) (t.getD x undef)) : Region.wanted o (yielded ops.toArray t) = b := by
  unfold guardV at h
  unfold Region.wanted yielded
  split at h
  · rename_i hg
    rw [hg]
    simpa using h
  · rename_i j want hg
    rw [hg]
    have hlk : ∀ x, (ops[j]?).bind (·.dst) = some x → x ∈ looks ops o := fun x hx => by
      unfold looks
      rw [hg]
      simp [hx]
    split at h
    · rename_i hj
      simp only [Option.some.injEq] at h
      subst h
      simp [hj]
    · rename_i i hj
      have hv := hr i (hlk i hj)
      have ht : ∀ v, t.getD i undef = v → v ≠ undef → t[i]? = some v := fun v hv hn => by
        rw [Array.getD_eq_getD_getElem?] at hv
        cases q : t[i]? with
        | none => rw [q] at hv; exact absurd hv.symm hn
        | some u => rw [q] at hv; simpa using hv
      split at h
      · rename_i c hc
        rw [hc] at hv
        have := ht _ hv (by simp [undef])
        simp only [Option.some.injEq] at h
        subst h
        simp [hj, this]
      · rename_i hc
        rw [hc] at hv
        simp only [Option.some.injEq] at h
        subst h
        obtain ⟨x, hx, hx2⟩ := hv
        have hxn : x = [] := hx2
        subst hxn
        simp only [List.getElem?_toArray, hj, Option.bind_some]
        cases q : t[i]? with
        | none => simp
        | some u =>
          rw [Array.getD_eq_getD_getElem?, q] at hx
          simp only [Option.getD_some] at hx
          subst hx
          simp
      · cases h

end Go.Am
namespace Go.Am
open Go

/-- An operation that reads memory at most. -/
def CalmOk (P : Program) (o : Oper) (tm : List D) (σ : List Ent) (d : D) : Prop :=
  ∀ X ρ w (a : Act), Rel X ρ σ w → EvR (sit X ρ σ w) P a tm o.op.operands.toList → ∃ v, (execOp a.eval o).run P w = .ok (.value v) w ∧ R (sit X ρ σ w) d v

/-- What an operation came to, when the text's order is kept. -/
inductive Kd (E : Env) (ro n : Nat) (ops : List Oper) (i : Nat) (o : Oper) (tm : List D) (σ : List Ent) (d : D) (σ' : List Ent) : Prop
  | calm (h : pureOp o.op = true ∨ (i < n ∧ calmOp o.op = true)) (hs : σ' = σ) (hk : ∀ σ2, pureOp o.op = true ∨ Kin σ σ2 → CalmOk E.P o tm σ2 d)
  | load (h : i < n) (hc : calmOp o.op = false) (t : TypeId) (a : Operand) (ho : o.op = .load t a) (hs : σ' = σ) (hl : loadD E.P σ t (ev E.P 0 tm a) = some d)
  | head (h : i < n) (hc : calmOp o.op = false) (hl : loadOp o.op = false) (hk : OpOk E.P σ.length o tm σ d σ') (hp : Pre σ.length σ σ') (h1 : D.lts σ.length tm = true) (h2 : Ent.lts σ.length σ = true)
  | tail (h : n ≤ i) (hp : pureOp o.op = false) (hk : OpOk E.P ro o tm σ d σ') (pre : Pre ro σ σ') (late : lateOk E.P tm n ((ancs ops []).getD i 0) o 0 (ops.take i) = true)
      (st : ∀ t a x, o.op = .store t a x → storeD E.P ro σ t (ev E.P 0 tm a) (ev E.P t tm x) = some σ')

def Good (E : Env) (ro n : Nat) (ops : List Oper) (i : Nat) (o : Oper) (tm : List D) (σ : List Ent) (d : D) (b : Bool) (tm' : List D) (σ' : List Ent) : Prop :=
  tm' = ((St.mk tm []).put o.dst d []).tm ∧ guardV ops o tm = some b ∧ (b = false → d = .tup [] ∧ σ' = σ) ∧ (b = true → Kd E ro n ops i o tm σ d σ')

theorem kd_ok {E : Env} (hE : EnvOk E) {ro n : Nat} {ops : List Oper} {i : Nat} {o : Oper} {tm : List D} {σ : List Ent} {k : Kont} {r : Res} (hd : ∀ c, o.op ≠ .defer c) (hro : ro ≤ σ.length)
    (hc : (if i < n then calmOp o.op || loadOp o.op || (D.lts σ.length tm && Ent.lts σ.length σ) else pureOp o.op || lateOk E.P tm n ((ancs ops []).getD i 0) o 0 (ops.take i)) = true)
    (h : opD E (if i < n then σ.length else ro) o ⟨tm, σ⟩ k = some r) : ∃ d σ', k d σ' = some r ∧ Kd E ro n ops i o tm σ d σ' := by
  by_cases hp : pureOp o.op = true
  · unfold opD at h
    rw [if_pos hp] at h
    obtain ⟨d, h1, h2⟩ := pureD_ok hE.eq h
    exact ⟨d, σ, h1, .calm (.inl hp) rfl fun σ2 _ X ρ w a hr ha => h2 _ a ha w⟩
  simp only [Bool.not_eq_true] at hp
  by_cases hn : i < n
  · rw [if_pos hn] at hc h
    by_cases hcal : calmOp o.op = true
    · have hcal' := hcal
      unfold calmOp at hcal
      rw [hp, Bool.false_or] at hcal
      unfold opD at h
      rw [hp, if_neg (by simp)] at h
      unfold memD at h
      split at hcal
      · rename_i t x ix ho
        rw [ho] at h
        obtain ⟨d, h1, h2⟩ := indexD_ok h
        refine ⟨d, σ, h1, .calm (.inr ⟨hn, hcal'⟩) rfl fun σ2 hk X ρ w a hr ha => ?_⟩
        obtain ⟨v, h3, h4⟩ := h2 X ρ σ2 w _ _ (hk.resolve_left (by rw [hp]; simp)) (ha x (by simp [ho, Op.operands]) t) (ha ix (by simp [ho, Op.operands]) 0)
        exact ⟨v, by simp [execOp, ho, h4 w], h3⟩
      · rename_i t x lo hi ho
        rw [ho] at h
        obtain ⟨d, h1, h2⟩ := sliceD_ok h
        refine ⟨d, σ, h1, .calm (.inr ⟨hn, hcal'⟩) rfl fun σ2 hk X ρ w a hr ha => ?_⟩
        obtain ⟨v, h3, h4⟩ := h2 _ _ (lo.map a.eval) (hi.map a.eval) (ha x (by simp [ho, Op.operands]) t) (fun d hd => by
          cases lo with
          | none => cases hd
          | some q => cases hd; exact ⟨_, rfl, ha q (by simp [ho, Op.operands]) 0⟩) (fun hd => by cases lo <;> simp_all) (fun d hd => by
          cases hi with
          | none => cases hd
          | some q => cases hd; exact ⟨_, rfl, ha q (by simp [ho, Op.operands]) 0⟩) (fun hd => by cases hi <;> simp_all)
        exact ⟨v, by simp [execOp, ho, h4 w], h3⟩
      · cases hcal
    · simp only [Bool.not_eq_true] at hcal
      by_cases hl : loadOp o.op = true
      · cases ho : o.op <;> rw [ho] at hl <;> try cases hl
        rename_i t a
        unfold opD at h
        rw [hp, if_neg (by simp)] at h
        unfold memD at h
        rw [ho] at h
        dsimp only at h
        split at h
        · rename_i d hd2
          exact ⟨d, σ, h, .load hn hcal t a ho rfl hd2⟩
        · cases h
      · simp only [Bool.not_eq_true] at hl
        rw [hcal, hl, Bool.false_or, Bool.false_or, Bool.and_eq_true] at hc
        obtain ⟨d, σ', h1, h2, h3⟩ := opD_ok hE hd (st := ⟨tm, σ⟩) (Nat.le_refl σ.length) h
        exact ⟨d, σ', h1, .head hn hcal hl h2 h3 hc.1 hc.2⟩
  · rw [if_neg hn] at hc h
    rw [hp, Bool.false_or] at hc
    by_cases hs : ∃ t a x, o.op = .store t a x
    · obtain ⟨t, a, x, ho⟩ := hs
      have h' := h
      unfold opD at h
      rw [hp, if_neg (by simp)] at h
      unfold memD at h
      rw [ho] at h
      dsimp only at h
      split at h
      · rename_i σ' hs
        have h4 : opD E ro o ⟨tm, σ⟩ (fun d s => some (d, s)) = some (.tup [], σ') := by
          unfold opD
          rw [hp, if_neg (by simp)]
          unfold memD
          rw [ho]
          dsimp only
          rw [hs]
        obtain ⟨d1, σ1, h5, h6, h7⟩ := opD_ok hE hd (st := ⟨tm, σ⟩) hro h4
        simp only [Option.some.injEq, Prod.mk.injEq] at h5
        obtain ⟨rfl, rfl⟩ := h5
        refine ⟨_, _, h, .tail (by omega) hp h6 h7 hc fun t' a' x' ho' => ?_⟩
        rw [ho] at ho'
        cases ho'
        exact hs
      · cases h
    · obtain ⟨d, σ', h1, h2, h3⟩ := opD_ok hE hd (st := ⟨tm, σ⟩) hro h
      exact ⟨d, σ', h1, .tail (by omega) hp h2 h3 hc fun t a x ho => (hs ⟨t, a, x, ho⟩).elim⟩

theorem kd_len {E : Env} {ro n : Nat} {ops : List Oper} {i : Nat} {o : Oper} {tm : List D} {σ : List Ent} {d : D} {σ' : List Ent} (h : Kd E ro n ops i o tm σ d σ') : σ.length ≤ σ'.length := by
  cases h with
  | calm _ hs => rw [hs]; exact Nat.le_refl _
  | load _ _ _ _ _ hs => rw [hs]; exact Nat.le_refl _
  | head _ _ _ _ hp => exact hp.2.length
  | tail _ _ _ hp => exact hp.2.length

theorem drawnD_tr {E : Env} (hE : EnvOk E) {ro n : Nat} {ops : List Oper} (hns : NoSel ops) : ∀ (rest : List Oper) (i : Nat) (st : St) (k : St → Option Res) (r : Res), ops.drop i = rest → i ≤ ops.length → ro ≤ st.σ.length →
    drawnD E ro n (ancs ops []) ops i rest st k = some r →
    ∃ (T : Nat → List D) (Z : Nat → List Ent) (d : Nat → D) (b : Nat → Bool), T i = st.tm ∧ Z i = st.σ ∧ k ⟨T ops.length, Z ops.length⟩ = some r ∧
      ∀ j o, i ≤ j → ops[j]? = some o → Good E ro n ops j o (T j) (Z j) (d j) (b j) (T (j + 1)) (Z (j + 1))
  | [], i, st, k, r, hi, hil, hro, h => by
    have : i = ops.length := by
      have := congrArg List.length hi
      simp at this
      omega
    subst this
    exact ⟨fun _ => st.tm, fun _ => st.σ, fun _ => .any, fun _ => false, rfl, rfl, h, fun j o hj ho => by
      have := (List.getElem?_eq_some_iff.1 ho).1
      omega⟩
  | o :: rest, i, st, k, r, hi, hil, hro, h => by
    have hlt : i < ops.length := by
      have := congrArg List.length hi
      simp at this
      omega
    have ho : ops[i]? = some o := by
      have := congrArg (·[0]?) hi
      simpa using this
    have hdrop : ops.drop (i + 1) = rest := by
      rw [← List.drop_drop, hi]
      rfl
    -- from the rest's trace, and what this operation came to
    have key : ∀ (d : D) (σ' : List Ent) (b : Bool), guardV ops o st.tm = some b → (b = false → d = .tup [] ∧ σ' = st.σ) → (b = true → Kd E ro n ops i o st.tm st.σ d σ') →
        drawnD E ro n (ancs ops []) ops (i + 1) rest ((St.mk st.tm st.σ).put o.dst d σ') k = some r → st.σ.length ≤ σ'.length →
        ∃ (T : Nat → List D) (Z : Nat → List Ent) (d : Nat → D) (b : Nat → Bool), T i = st.tm ∧ Z i = st.σ ∧ k ⟨T ops.length, Z ops.length⟩ = some r ∧
          ∀ j o, i ≤ j → ops[j]? = some o → Good E ro n ops j o (T j) (Z j) (d j) (b j) (T (j + 1)) (Z (j + 1)) := by
      intro d σ' b hg h1 h2 h3 h4
      obtain ⟨T, Z, d', b', e1, e2, e3, e4⟩ := drawnD_tr hE hns rest (i + 1) _ k r hdrop hlt (by rw [put_σ]; omega) h3
      rw [put_tm] at e1
      rw [put_σ] at e2
      refine ⟨fun j => if j = i then st.tm else T j, fun j => if j = i then st.σ else Z j, fun j => if j = i then d else d' j, fun j => if j = i then b else b' j, if_pos rfl, if_pos rfl, ?_, fun j o' hj ho' => ?_⟩
      · simp only [if_neg (show ¬ ops.length = i by omega)]
        exact e3
      · by_cases q : j = i
        · subst q
          rw [ho] at ho'
          cases ho'
          simp only [if_pos, if_neg (show ¬ j + 1 = j by omega)]
          exact ⟨e1, hg, by rw [e2]; exact h1, by rw [e2]; exact h2⟩
        · simp only [if_neg q, if_neg (show ¬ j + 1 = i by omega)]
          exact e4 j o' (by omega) ho'
    unfold drawnD at h
    rcases guardD_spec h with ⟨hg, h⟩ | ⟨hg, h⟩
    · by_cases hc : (if i < n then calmOp o.op || loadOp o.op || (D.lts st.σ.length st.tm && Ent.lts st.σ.length st.σ) else pureOp o.op || lateOk E.P st.tm n ((ancs ops []).getD i 0) o 0 (ops.take i)) = true
      · rw [if_pos hc] at h
        obtain ⟨d, σ', h1, h2⟩ := kd_ok hE (hns o (List.mem_of_getElem? ho)).1 hro hc h
        exact key d σ' true hg (fun q => by cases q) (fun _ => h2) h1 (kd_len h2)
      · rw [if_neg hc] at h
        cases h
    · exact key _ _ false hg (fun _ => ⟨rfl, rfl⟩) (fun q => by cases q) h (Nat.le_refl _)

end Go.Am
namespace Go.Am
open Go

theorem lts_getD {n : Nat} : ∀ {l : List D}, D.lts n l = true → ∀ i, (l.getD i .any).lt n = true
  | [], _, i => by simp [D.lt]
  | d :: l, h, 0 => by
    have h' : (d.lt n && D.lts n l) = true := h
    rw [Bool.and_eq_true] at h'
    simpa using h'.1
  | d :: l, h, i + 1 => by
    have h' : (d.lt n && D.lts n l) = true := h
    rw [Bool.and_eq_true] at h'
    simpa using lts_getD h'.2 i
theorem ofV_lt (n : Nat) (r : Option Row) (v : Value) : (ofV r v).lt n = true := by
  unfold ofV
  split <;> simp [D.lt]
theorem ev_lt {P : Program} {n : Nat} {tm : List D} (h : D.lts n tm = true) (t : TypeId) (x : Operand) : (ev P t tm x).lt n = true := by
  cases x with
  | tmp i => exact lts_getD h i
  | const v => exact ofV_lt _ _ _
  | func f => rfl
  | global _ => rfl

/-- What lies behind is hidden. -/
def headX (X : Pl) (ρ : Rn) (σ : List Ent) (m : Nat) : Pl := fun b o => X b o ∧ ∀ i, m ≤ i → ρ i = some b → ∃ r n, σ[i]? = some (.tok r n) ∧ o < n * r.size

theorem head_leN {X : Pl} {ρ : Rn} {σ σi : List Ent} {w : World} (hp : ∀ j, j < σi.length → σ[j]? = σi[j]?) : LeN σi.length (sit X ρ σ w) (sit (headX X ρ σ σi.length) (ρ.cut σi.length) σi w) where
  rd a v := fun ⟨h1, h2, h3, h4⟩ => ⟨h1, h2, ⟨h3, fun i _ hi => h4 i hi⟩, fun i hi => by
    unfold Rn.cut at hi
    split at hi
    · obtain ⟨r, m, h5, h6⟩ := h4 i hi
      exact ⟨r, m, by rw [← hp i (by assumption)]; exact h5, h6⟩
    · cases hi⟩
  pt i g hi := fun ⟨h1, l, h2⟩ => ⟨by unfold Rn.cut; rw [if_pos hi]; exact h1, l, by rw [← hp i hi]; exact h2⟩
  bf i g r m hi := fun ⟨h1, xs, h2, h3⟩ => ⟨by unfold Rn.cut; rw [if_pos hi]; exact h1, xs, by rw [← hp i hi]; exact h2, h3⟩
  lp i g hi := fun ⟨h1, f, tm, ps, a, b, s, p, h2⟩ => ⟨by unfold Rn.cut; rw [if_pos hi]; exact h1, f, tm, ps, a, b, s, p, by rw [← hp i hi]; exact h2⟩
  tk t r m v hi := fun ⟨r', m', h1, h2, h3⟩ => ⟨r', m', by rw [← hp t hi]; exact h1, h2, fun e => by
    rcases h3 e with h4 | ⟨g, c, arr, el, a, b⟩
    · exact .inl h4
    · exact .inr ⟨g, c, arr, el, by unfold Rn.cut; rw [if_pos hi]; exact a, b⟩⟩

theorem head_rel {X : Pl} {ρ : Rn} {σ σi : List Ent} {w : World} (h : Rel X ρ σ w) (hp : ∀ j, j < σi.length → σ[j]? = σi[j]?) (hl : Ent.lts σi.length σi = true) :
    Rel (headX X ρ σ σi.length) (ρ.cut σi.length) σi w where
  inj i j g hi hj := by
    unfold Rn.cut at hi hj
    split at hi <;> split at hj
    · exact h.inj i j g hi hj
    · cases hj
    · cases hi
    · cases hi
  ent i g hi := by
    unfold Rn.cut at hi
    split at hi
    · rename_i q
      obtain ⟨e, h1, h2⟩ := h.ent i g hi
      have h3 : σi[i]? = some e := by rw [← hp i q]; exact h1
      exact ⟨e, h3, h2.monoN (head_leN hp) (lts_get hl h3)⟩
    · cases hi
  top b o hb := ⟨h.top b o hb, fun i _ hi => by have := (h.lt hi).2; omega⟩
  fr i g hi o := by
    unfold Rn.cut at hi
    split at hi
    · exact ⟨h.fr i g hi o, fun j hj hj' => by have := h.inj i j g hi hj'; omega⟩
    · cases hi

/-- The names of what was made take their places. -/
def Rn.mid (ρ : Rn) (m m' : Nat) (ρ2 : Rn) : Rn := fun i => if i < m then ρ i else if i < m' then ρ2 i else ρ i

theorem head_join {X : Pl} {ρ ρ2 : Rn} {σ σi σi' : List Ent} {w w2 : World} {ro : Nat} (hr : Rel X ρ σ w) (hp : ∀ j, j < σi.length → σ[j]? = σi[j]?) (hp' : ∀ j, j < σi'.length → σ[j]? = σi'[j]?)
    (hll : σi.length ≤ σi'.length) (hro : ro ≤ σi.length) (hnone : ∀ i, σi.length ≤ i → i < σi'.length → ρ i = none)
    (h2 : Rel (headX X ρ σ σi.length) ρ2 σi' w2) (hs : Step σi.length (headX X ρ σ σi.length) (ρ.cut σi.length) σi w ρ2 σi' w2) :
    Rel X (ρ.mid σi.length σi'.length ρ2) σ w2 ∧ Le (sit (headX X ρ σ σi.length) ρ2 σi' w2) (sit X (ρ.mid σi.length σi'.length ρ2) σ w2) ∧ Step ro X ρ σ w (ρ.mid σi.length σi'.length ρ2) σ w2 := by
  have himg : ∀ i g, σi.length ≤ i → ρ2 i = some g → w.heap.size ≤ g := fun i g hi hg => by
    rcases hs.img i g hi hg with ⟨j, h3, hj⟩ | q
    · unfold Rn.cut at hj
      rw [if_neg (by omega)] at hj
      cases hj
    · exact q
  have hold : ∀ b, b < w.heap.size → w2.heap[b]? = w.heap[b]? := fun b hb => hs.old b hb fun i hi hg => by
    unfold Rn.cut at hg
    rw [if_neg (by omega)] at hg
    cases hg
  have low : ∀ i, i < σi.length → ρ2 i = ρ i := fun i hi => by
    rw [(hs.keep i hi).1]
    exact if_pos hi
  have up : ∀ i g, ρ i = some g → (ρ.mid σi.length σi'.length ρ2) i = some g := fun i g hi => by
    unfold Rn.mid
    split
    · exact hi
    · split
      · rw [hnone i (by omega) (by assumption)] at hi
        cases hi
      · exact hi
  have dn : ∀ i g, (ρ.mid σi.length σi'.length ρ2) i = some g → ρ i = some g ∨ (σi.length ≤ i ∧ i < σi'.length ∧ ρ2 i = some g ∧ w.heap.size ≤ g) := fun i g hi => by
    unfold Rn.mid at hi
    split at hi
    · exact .inl hi
    · split at hi
      · exact .inr ⟨by omega, by assumption, hi, himg i g (by omega) hi⟩
      · exact .inl hi
  have mid2 : ∀ i, i < σi'.length → (ρ.mid σi.length σi'.length ρ2) i = ρ2 i := fun i hi => by
    unfold Rn.mid
    split
    · exact (low i (by assumption)).symm
    · rfl
  have lt2 : ∀ {i : Nat} {e : Ent}, σi'[i]? = some e → i < σi'.length := fun q => (List.getElem?_eq_some_iff.1 q).1
  have hc : ∀ (a : Addr) v, w.cell? a = some v → a.block < w.heap.size ∧ w2.cell? a = some v := fun a v h => by
    have hb : a.block < w.heap.size := by
      unfold World.cell? at h
      split at h
      · rename_i hx; exact (Array.getElem?_eq_some_iff.1 hx).1
      · cases h
    refine ⟨hb, ?_⟩
    unfold World.cell? at h ⊢
    rw [hold _ hb]
    exact h
  have le1 : Le (sit X ρ σ w) (sit X (ρ.mid σi.length σi'.length ρ2) σ w2) := by
    refine ⟨fun a v ⟨h3, h4, h5, h6⟩ => ⟨h3, (hc a v h4).2, h5, fun i hi => ?_⟩, fun i g ⟨h3, l, h4⟩ => ⟨up i g h3, l, h4⟩, fun i g r m ⟨h3, xs, h4, h5⟩ => ⟨up i g h3, xs, h4, h5⟩, fun i g ⟨h3, h4⟩ => ⟨up i g h3, h4⟩, fun t r n v ⟨r', m, h3, h4, h5⟩ => ⟨r', m, h3, h4, fun e => ?_⟩⟩
    · rcases dn i _ hi with hi | ⟨_, _, _, q⟩
      · exact h6 i hi
      · have := (hc a v h4).1
        omega
    · rcases h5 e with h6 | ⟨g, c, arr, el, a, b, d, f⟩
      · exact .inl h6
      · exact .inr ⟨g, c, arr, el, up t g a, b, by rw [hold _ (hr.lt a).2]; exact d, f⟩
  have le2 : Le (sit (headX X ρ σ σi.length) ρ2 σi' w2) (sit X (ρ.mid σi.length σi'.length ρ2) σ w2) := by
    refine ⟨fun a v ⟨h3, h4, h5, h6⟩ => ⟨h3, h4, h5.1, fun i hi => ?_⟩, fun i g ⟨h3, l, h4⟩ => ⟨by rw [mid2 i (lt2 h4)]; exact h3, l, by rw [hp' i (lt2 h4)]; exact h4⟩, fun i g r m ⟨h3, xs, h4, h5⟩ => ⟨by rw [mid2 i (lt2 h4)]; exact h3, xs, by rw [hp' i (lt2 h4)]; exact h4, h5⟩,
      fun i g ⟨h3, f, tm, ps, a, b, s, p, h4⟩ => ⟨by rw [mid2 i (lt2 h4)]; exact h3, f, tm, ps, a, b, s, p, by rw [hp' i (lt2 h4)]; exact h4⟩, fun t r n v ⟨r', m, h3, h4, h5⟩ => ⟨r', m, by rw [hp' t (lt2 h3)]; exact h3, h4, fun e => by rw [mid2 t (lt2 h3)]; exact h5 e⟩⟩
    by_cases q : i < σi'.length
    · rw [mid2 i q] at hi
      obtain ⟨r, n, h7, h8⟩ := h6 i hi
      exact ⟨r, n, by rw [hp' i q]; exact h7, h8⟩
    · rcases dn i _ hi with hi | ⟨_, q2, _, _⟩
      · exact h5.2 i (by omega) hi
      · exact (q q2).elim
  refine ⟨⟨fun i j g hi hj => ?_, fun i g hi => ?_, fun b o hb => hr.top b o (Nat.le_trans hs.size hb), fun i g hi o => ?_⟩, le2, ⟨hs.os, hs.tape, hs.output, hs.size, fun b hb _ => hold b hb, fun i g hi hg => ?_, fun i hi => ⟨?_, rfl⟩, le1⟩⟩
  · rcases dn i g hi with hi | ⟨_, _, hi, qi⟩ <;> rcases dn j g hj with hj | ⟨_, _, hj, qj⟩
    · exact hr.inj i j g hi hj
    · have := (hr.lt hi).2
      omega
    · have := (hr.lt hj).2
      omega
    · exact h2.inj i j g hi hj
  · rcases dn i g hi with hi | ⟨_, q, hi, _⟩
    · obtain ⟨e, h3, h4⟩ := hr.ent i g hi
      exact ⟨e, h3, (h4.mono le1).world (hold g (hr.lt hi).2)⟩
    · obtain ⟨e, h3, h4⟩ := h2.ent i g hi
      exact ⟨e, by rw [hp' i q]; exact h3, h4.mono le2⟩
  · rcases dn i g hi with hi | ⟨_, _, _, q⟩
    · exact hr.fr i g hi o
    · exact hr.top g o q
  · rcases dn i g hg with hg | ⟨_, _, _, q⟩
    · exact .inl ⟨i, hi, hg⟩
    · exact .inr q
  · unfold Rn.mid
    rw [if_pos (by omega)]

theorem head_ok {P : Program} {o : Oper} {tm : List D} {d : D} {X : Pl} {ρ : Rn} {σ σi σi' : List Ent} {w : World} {a : Act} {ro : Nat} (hr : Rel X ρ σ w) (hp : ∀ j, j < σi.length → σ[j]? = σi[j]?) (hp' : ∀ j, j < σi'.length → σ[j]? = σi'[j]?)
    (hll : σi.length ≤ σi'.length) (hro : ro ≤ σi.length) (hnone : ∀ i, σi.length ≤ i → i < σi'.length → ρ i = none) (h1 : D.lts σi.length tm = true) (h2 : Ent.lts σi.length σi = true) (hk : OpOk P σi.length o tm σi d σi')
    (ha : EvR (sit X ρ σ w) P a tm o.op.operands.toList) {l : Option Nat} {nn : Nat} {K : Act → World → Prop} {Q : Exit → Act → World → Prop}
    (hK : ∀ v ρ' w', Rel X ρ' σ w' → R (sit X ρ' σ w') d v → Step ro X ρ σ w ρ' σ w' → (∀ i, i < σi.length ∨ σi'.length ≤ i → ρ' i = ρ i) → K (a.put o.dst v) w') : o.wpIn (fen l) nn P a w K Q := by
  refine hk (headX X ρ σ σi.length) (ρ.cut σi.length) w a l nn K Q (head_rel hr hp h2) (Nat.le_refl _) (fun x hx t => R.monoN (head_leN hp) _ _ (ev_lt h1 t x) (ha x hx t)) fun v ρ2 w2 h3 h4 h5 => ?_
  obtain ⟨h6, h7, h8⟩ := head_join (ro := ro) hr hp hp' hll hro hnone h3 h5
  refine hK v _ w2 h6 (R.mono h7 d v h4) h8 fun i hi => ?_
  unfold Rn.mid
  rcases hi with hi | hi
  · rw [if_pos hi]
  · split
    · rfl
    · rw [if_neg (by omega)]

/-! ### Loads that come late -/
theorem loadCells_pre {σ σ' : List Ent} (h : ∀ j, j < σ.length → σ'[j]? = σ[j]?) {n : Nat} {p : D} {l : List D} (hl : loadCells σ n p = some l) : loadCells σ' n p = some l := by
  unfold loadCells at hl ⊢
  split at hl
  · split at hl
    · rename_i he
      rw [h _ (List.getElem?_eq_some_iff.1 he).1, he]
      exact hl
    · cases hl
  · split at hl
    · rename_i he
      rw [h _ (List.getElem?_eq_some_iff.1 he).1, he]
      exact hl
    · cases hl
  · exact hl
  · cases hl
theorem loadD_cells {P : Program} {σ σ' : List Ent} {t : TypeId} {p d : D} (h : ∀ l, loadCells σ (P.cellsOf t) p = some l → loadCells σ' (P.cellsOf t) p = some l) (hl : loadD P σ t p = some d) : loadD P σ' t p = some d := by
  unfold loadD at hl ⊢
  simp only [Option.bind_eq_some_iff] at hl ⊢
  obtain ⟨l, h1, h2⟩ := hl
  exact ⟨l, h l h1, h2⟩
theorem patch_low {l ls : List D} {off o n : Nat} (h : o + n ≤ off) (hf : off ≤ l.length) : ((patch l ls off).drop o).take n = (l.drop o).take n := by
  apply List.ext_getElem?
  intro j
  rw [List.getElem?_take, List.getElem?_take]
  split
  · rename_i hj
    rw [List.getElem?_drop, List.getElem?_drop]
    unfold patch
    rw [List.append_assoc, List.getElem?_append_left (by simp; omega), List.getElem?_take, if_pos (by omega)]
  · rfl
theorem patch_high {l ls : List D} {off o n : Nat} (h : off + ls.length ≤ o) (hf : off + ls.length ≤ l.length) : ((patch l ls off).drop o).take n = (l.drop o).take n := by
  congr 1
  apply List.ext_getElem?
  intro j
  rw [List.getElem?_drop, List.getElem?_drop]
  unfold patch
  rw [List.getElem?_append_right (by simp; omega)]
  rw [List.getElem?_drop]
  congr 1
  simp
  omega

theorem away_ok {P : Program} {ro : Nat} {σ σ' : List Ent} {t : TypeId} {q x : D} (h : storeD P ro σ t q x = some σ') {n : Nat} {p : D} (ha : awayD p n q (P.cellsOf t) = true) {l : List D} (hl : loadCells σ n p = some l) : loadCells σ' n p = some l := by
  unfold storeD at h
  split at h
  · cases h
  rename_i ls hc
  split at h
  case isFalse => cases h
  rename_i hls
  split at h
  · rename_i id off
    split at h
    case isFalse => cases h
    split at h
    · rename_i b he
      split at h
      case isFalse => cases h
      rename_i hfit
      simp only [Option.some.injEq] at h
      obtain ⟨new, hn⟩ := ownL_app ls σ
      have hlen : (ownL ls σ).1.length = ls.length := by
        have : ∀ (l : List D) (σ : List Ent), (ownL l σ).1.length = l.length := by
          intro l
          induction l with
          | nil => intro σ; rfl
          | cons d l ih =>
            intro σ
            by_cases q : ∃ r xs, d = .sl r xs .fresh
            · obtain ⟨r, xs, rfl⟩ := q
              simp [ownL, ih]
            · rw [ownL]
              · simp [ih]
              · exact fun r xs hd => q ⟨r, xs, hd⟩
        exact this ls σ
      have hid := (List.getElem?_eq_some_iff.1 he).1
      -- another block
      have other : ∀ j e, j ≠ id → σ[j]? = some e → σ'[j]? = some e := fun j e hj hje => by
        rw [← h, hn, List.getElem?_set_ne (Ne.symm hj)]
        exact get_app hje
      have same : σ'[id]? = some (.box (patch b (ownL ls σ).1 off)) := by
        rw [← h, hn]
        exact List.getElem?_set_self (by simp; omega)
      unfold loadCells at hl ⊢
      unfold awayD at ha
      split at hl
      · rename_i id' off'
        simp only [Bool.or_eq_true, decide_eq_true_eq] at ha
        split at hl
        · rename_i l' he'
          by_cases q : id' = id
          · subst q
            rw [he] at he'
            cases he'
            simp only [same]
            rw [← hl]
            rcases ha with (ha | ha) | ha
            · exact (ha rfl).elim
            · rw [patch_low ha (by omega)]
            · rw [patch_high (by rw [hlen]; omega) (by rw [hlen]; omega)]
          · rw [other _ _ q he']
            exact hl
        · cases hl
      · rename_i id' i j
        simp only [decide_eq_true_eq] at ha
        split at hl
        · rename_i he'
          rw [other _ _ ha he']
          exact hl
        · cases hl
      · exact hl
      · cases hl
    · cases h
  · rename_i id i j
    split at h
    case isFalse => cases h
    split at h
    · rename_i r xs he
      split at h
      case isFalse => cases h
      simp only [Option.map_eq_some_iff] at h
      obtain ⟨y, _, h⟩ := h
      have other : ∀ j e, j ≠ id → σ[j]? = some e → σ'[j]? = some e := fun j e hj hje => by
        rw [← h, List.getElem?_set_ne (Ne.symm hj)]
        exact hje
      unfold loadCells at hl ⊢
      unfold awayD at ha
      split at hl
      · simp only [decide_eq_true_eq] at ha
        split at hl
        · rename_i he'
          rw [other _ _ ha he']
          exact hl
        · cases hl
      · simp only [decide_eq_true_eq] at ha
        split at hl
        · rename_i he'
          rw [other _ _ ha he']
          exact hl
        · cases hl
      · exact hl
      · cases hl
    · cases h
  · cases h

end Go.Am
namespace Go.Am
open Go

structure Dr (E : Env) (ro n : Nat) (ops : List Oper) (T : Nat → List D) (Z : Nat → List Ent) (d : Nat → D) (b : Nat → Bool) : Prop where
  st : Static ops n
  good : ∀ (j : Nat) (o : Oper), ops[j]? = some o → Good E ro n ops j o (T j) (Z j) (d j) (b j) (T (j + 1)) (Z (j + 1))
  ro : ro ≤ (Z 0).length

section
variable {E : Env} {ro n : Nat} {ops : List Oper} {T : Nat → List D} {Z : Nat → List Ent} {d : Nat → D} {b : Nat → Bool}

theorem Dr.z1 (h : Dr E ro n ops T Z d b) {j : Nat} (hj : j < ops.length) (hro : ro ≤ (Z j).length) : Pre ro (Z j) (Z (j + 1)) ∧ (j < n → Pre (Z j).length (Z j) (Z (j + 1))) := by
  obtain ⟨_, _, h3, h4⟩ := h.good j _ (List.getElem?_eq_getElem hj)
  cases q : b j with
  | false => rw [(h3 q).2]; exact ⟨Pre.refl _ _, fun _ => Pre.refl _ _⟩
  | true =>
    cases h4 q with
    | calm _ hs => rw [hs]; exact ⟨Pre.refl _ _, fun _ => Pre.refl _ _⟩
    | load _ _ _ _ _ hs => rw [hs]; exact ⟨Pre.refl _ _, fun _ => Pre.refl _ _⟩
    | head _ _ _ _ hp => exact ⟨hp.less hro, fun _ => hp⟩
    | tail hn _ _ hp => exact ⟨hp, fun q => by omega⟩
theorem Dr.z (h : Dr E ro n ops T Z d b) : ∀ (k i : Nat), i + k ≤ ops.length → ro ≤ (Z i).length → Pre ro (Z i) (Z (i + k))
  | 0, i, _, _ => Pre.refl _ _
  | k + 1, i, hk, hro => by
    have h1 := Dr.z h k i (by omega) hro
    exact h1.trans (h.z1 (j := i + k) (by omega) (Nat.le_trans hro h1.2.length)).1
theorem Dr.roz (h : Dr E ro n ops T Z d b) {i : Nat} (hi : i ≤ ops.length) : ro ≤ (Z i).length := by
  have := (Dr.z h i 0 (by omega) h.ro).2.length
  rw [Nat.zero_add] at this
  exact Nat.le_trans h.ro this
theorem Dr.zz (h : Dr E ro n ops T Z d b) {i j : Nat} (hij : i ≤ j) (hj : j ≤ ops.length) : Pre ro (Z i) (Z j) := by
  have := Dr.z h (j - i) i (by omega) (h.roz (by omega))
  rwa [show i + (j - i) = j by omega] at this
theorem Dr.low (h : Dr E ro n ops T Z d b) : ∀ (k i : Nat), i + k ≤ n → Pre (Z i).length (Z i) (Z (i + k))
  | 0, i, _ => Pre.refl _ _
  | k + 1, i, hk => by
    have h1 := Dr.low h k i (by omega)
    have := h.st.hn
    exact h1.trans (((h.z1 (j := i + k) (by omega) (h.roz (by omega))).2 (by omega)).less h1.2.length)
theorem Dr.lows (h : Dr E ro n ops T Z d b) {i j : Nat} (hij : i ≤ j) (hj : j ≤ n) : Pre (Z i).length (Z i) (Z j) := by
  have := Dr.low h (j - i) i (by omega)
  rwa [show i + (j - i) = j by omega] at this
theorem Dr.const (h : Dr E ro n ops T Z d b) : ∀ (k i : Nat), n ≤ i → i + k ≤ ops.length → (∀ j o, ops[j]? = some o → i ≤ j → j < i + k → pureOp o.op = true) → Z (i + k) = Z i
  | 0, i, _, _, _ => rfl
  | k + 1, i, hn, hk, hp => by
    rw [← Dr.const h k i hn (by omega) fun j o ho h1 h2 => hp j o ho h1 (by omega)]
    have ho := List.getElem?_eq_getElem (l := ops) (i := i + k) (by omega)
    obtain ⟨_, _, h3, h4⟩ := h.good (i + k) _ ho
    have hpu := hp (i + k) _ ho (by omega) (by omega)
    cases q : b (i + k) with
    | false => exact (h3 q).2
    | true =>
      cases h4 q with
      | calm _ hs => exact hs
      | load _ _ _ _ _ hs => exact hs
      | head h => omega
      | tail _ hp => rw [hpu] at hp; cases hp
theorem Dr.consts (h : Dr E ro n ops T Z d b) {i j : Nat} (hn : n ≤ i) (hij : i ≤ j) (hj : j ≤ ops.length) (hp : ∀ k o, ops[k]? = some o → i ≤ k → k < j → pureOp o.op = true) : Z j = Z i := by
  have := Dr.const h (j - i) i hn (by omega) fun k o ho h1 h2 => hp k o ho h1 (by omega)
  rwa [show i + (j - i) = j by omega] at this
theorem Dr.t1 (h : Dr E ro n ops T Z d b) {j : Nat} {o : Oper} (ho : ops[j]? = some o) : T (j + 1) = match o.dst with | some t => (T j).set t (d j) | none => T j := by
  rw [(h.good j o ho).1]
  cases o.dst <;> rfl
theorem Dr.tlen (h : Dr E ro n ops T Z d b) : ∀ (j : Nat), j ≤ ops.length → (T j).length = (T 0).length
  | 0, _ => rfl
  | j + 1, hj => by
    rw [h.t1 (List.getElem?_eq_getElem (l := ops) (i := j) (by omega))]
    split
    · rw [List.length_set, Dr.tlen h j (by omega)]
    · exact Dr.tlen h j (by omega)
theorem getD_set_other {l : List D} {t u : Nat} {x : D} (h : t ≠ u) : (l.set t x).getD u .any = l.getD u .any := by
  rw [List.getD_eq_getElem?_getD, List.getD_eq_getElem?_getD, List.getElem?_set_ne h]
/-- A temporary that nothing writes meanwhile. -/
theorem Dr.tkeep (h : Dr E ro n ops T Z d b) {t : Tmp} : ∀ (k i : Nat), i + k ≤ ops.length → (∀ j o, ops[j]? = some o → i ≤ j → j < i + k → o.dst ≠ some t) → (T (i + k)).getD t .any = (T i).getD t .any
  | 0, i, _, _ => rfl
  | k + 1, i, hk, hp => by
    rw [← Dr.tkeep h k i (by omega) fun j o ho h1 h2 => hp j o ho h1 (by omega)]
    have ho := List.getElem?_eq_getElem (l := ops) (i := i + k) (by omega)
    have hne := hp (i + k) _ ho (by omega) (by omega)
    show (T ((i + k) + 1)).getD t .any = _
    rw [h.t1 ho]
    cases q : (ops[i + k]).dst with
    | none => rfl
    | some u => exact getD_set_other fun e => hne (by rw [q, e])
theorem Dr.tkeeps (h : Dr E ro n ops T Z d b) {t : Tmp} {i j : Nat} (hij : i ≤ j) (hj : j ≤ ops.length) (hp : ∀ k o, ops[k]? = some o → i ≤ k → k < j → o.dst ≠ some t) : (T j).getD t .any = (T i).getD t .any := by
  have := Dr.tkeep h (t := t) (j - i) i (by omega) fun k o ho h1 h2 => hp k o ho h1 (by omega)
  rwa [show i + (j - i) = j by omega] at this

/-- It has come up. -/
abbrev Li (listed : Array Bool) (j : Nat) : Prop := listed.getD j false = true

structure Inv (E : Env) (ro n : Nat) (ops : List Oper) (T : Nat → List D) (Z : Nat → List Ent) (d : Nat → D) (b : Nat → Bool) (X : Pl) (N0 : Nat) (ρ0 : Rn) (σ0 : List Ent) (w0 : World)
    (fuel : Nat) (listed : Array Bool) (a : Act) (w : World) (ρ : Rn) (c : Nat) : Prop where
  size : listed.size = ops.length
  fuel : listed.toList.count false ≤ fuel
  closed : ∀ (j : Nat) (o : Oper), ops[j]? = some o → Li listed j → ∀ e ∈ o.after.toList, binds e = true → Li listed e.on
  cn : n ≤ c
  cN : c ≤ ops.length
  tail : ∀ (j : Nat) (o : Oper), ops[j]? = some o → n ≤ j → pureOp o.op = false → (Li listed j ↔ j < c)
  heads : ∀ (j : Nat) (o : Oper), ops[j]? = some o → n ≤ j → pureOp o.op = false → j < c → ∀ (i : Nat) (o' : Oper), ops[i]? = some o' → i < n → calmOp o'.op = false → loadOp o'.op = false → Li listed i
  rel : Rel X ρ (Z c) w
  none : ∀ (i : Nat) (o : Oper), ops[i]? = some o → i < n → ¬ Li listed i → ∀ id, (Z i).length ≤ id → id < (Z (i + 1)).length → ρ id = Option.none
  tm : ∀ (t : Tmp) (i : Nat), i ≤ ops.length → (∀ (k : Nat) (o : Oper), ops[k]? = some o → o.dst = some t → (Li listed k ↔ k < i)) → R (sit X ρ (Z c) w) ((T i).getD t .any) (a.tmps.getD t undef)
  tms : a.tmps.size = (T 0).length
  loads : ∀ (i : Nat) (o : Oper) (t : TypeId) (x : Operand), ops[i]? = some o → i < n → b i = true → ¬ Li listed i → o.op = .load t x → loadD E.P (Z c) t (ev E.P 0 (T i) x) = some (d i)
  step : Step ro X ρ0 σ0 w0 ρ (Z c) w
  dfs : Dfs N0 ρ w a.defers

variable {X : Pl} {N0 : Nat} {ρ0 : Rn} {σ0 : List Ent} {w0 : World} {fuel : Nat} {listed : Array Bool} {a : Act} {w : World} {ρ : Rn} {c : Nat}

theorem ready_spec {i : Nat} (h : i ∈ Region.ready .any ops.toArray listed) : ∃ o, ops[i]? = some o ∧ i < listed.size ∧ listed.getD i false = false ∧ ∀ e ∈ o.after.toList, binds e = true → Li listed e.on := by
  obtain ⟨h1, o, h2, h3⟩ := mem_ready.1 h
  have hlt : i < listed.size := by
    rcases Nat.lt_or_ge i listed.size with q | q
    · exact q
    · simp [Array.getElem?_eq_none q] at h1
  refine ⟨o, by simpa using h2, hlt, ?_, fun e he hb => h3 e (by simpa using he) hb⟩
  simpa [hlt] using h1
theorem li_put {i k : Nat} (hi : i < listed.size) : Li (listed.setIfInBounds i true) k ↔ Li listed k ∨ k = i := by
  by_cases q : i = k
  · subst q
    simp [Li, hi]
  · rw [Li, getD_set_ne false q]
    exact ⟨.inl, fun h => h.resolve_right (Ne.symm q)⟩

theorem Inv.look (hd : Dr E ro n ops T Z d b) (h : Inv E ro n ops T Z d b X N0 ρ0 σ0 w0 fuel listed a w ρ c) {i : Nat} {o : Oper} (ho : ops[i]? = some o) (hnl : listed.getD i false = false) (hrd : ∀ e ∈ o.after.toList, binds e = true → Li listed e.on) :
    ∀ t ∈ looks ops o, R (sit X ρ (Z c) w) ((T i).getD t .any) (a.tmps.getD t undef) := fun t ht => by
  refine h.tm t i (Nat.le_of_lt (List.getElem?_eq_some_iff.1 ho).1) fun k ok hk hkt => ⟨fun hl => ?_, fun hki => ?_⟩
  · rcases Nat.lt_trichotomy k i with q | q | q
    · exact q
    · subst q
      rw [Li, hnl] at hl
      cases hl
    · have := anc_closed (L := Li listed) h.closed k ok hk (h.closed k ok hk hl) i (hd.st.ssa2 i k o ok t ho hk q hkt ht)
      rw [Li, hnl] at this
      cases this
  · rcases hd.st.pairs k i ok o hk ho hki with q | q
    · exact anc_closed (L := Li listed) h.closed i o ho hrd k q
    · exact (q t hkt ht).elim

theorem look_ev {P : Program} {S : Sit} {tm : List D} {o : Oper} (h : ∀ t ∈ looks ops o, R S (tm.getD t .any) (a.tmps.getD t undef)) : EvR S P a tm o.op.operands.toList := fun x hx ty => by
  cases x with
  | tmp t => exact h t (List.mem_append_left _ (List.mem_filterMap.2 ⟨.tmp t, hx, rfl⟩))
  | const v => exact ofV_ok _ _
  | func f => exact ⟨[], [], rfl, rfl, rfl⟩
  | global g => exact trivial

/-- An operation is through. -/
theorem Inv.put (hd : Dr E ro n ops T Z d b) (h : Inv E ro n ops T Z d b X N0 ρ0 σ0 w0 (fuel + 1) listed a w ρ c) {i : Nat} {o : Oper} (ho : ops[i]? = some o) (hi : i < listed.size) (hnl : listed.getD i false = false)
    (hrd : ∀ e ∈ o.after.toList, binds e = true → Li listed e.on) {ρ' : Rn} {w' : World} {c' : Nat} {v : Value} (hr : Rel X ρ' (Z c') w') (hs : Step ro X ρ (Z c) w ρ' (Z c') w') (hv : R (sit X ρ' (Z c') w') (d i) v) (cn : n ≤ c') (cN : c' ≤ ops.length)
    (tail : ∀ (j : Nat) (oj : Oper), ops[j]? = some oj → n ≤ j → pureOp oj.op = false → (Li listed j ∨ j = i ↔ j < c'))
    (heads : ∀ (j : Nat) (oj : Oper), ops[j]? = some oj → n ≤ j → pureOp oj.op = false → j < c' → ∀ (k : Nat) (o' : Oper), ops[k]? = some o' → k < n → calmOp o'.op = false → loadOp o'.op = false → Li listed k ∨ k = i)
    (none : ∀ (k : Nat) (ok : Oper), ops[k]? = some ok → k < n → ¬ (Li listed k ∨ k = i) → ∀ id, (Z k).length ≤ id → id < (Z (k + 1)).length → ρ' id = Option.none)
    (loads : ∀ (k : Nat) (ok : Oper) (t : TypeId) (x : Operand), ops[k]? = some ok → k < n → b k = true → ¬ (Li listed k ∨ k = i) → ok.op = .load t x → loadD E.P (Z c') t (ev E.P 0 (T k) x) = some (d k)) :
    Inv E ro n ops T Z d b X N0 ρ0 σ0 w0 fuel (listed.setIfInBounds i true) (a.put o.dst v) w' ρ' c' where
  size := by simp [h.size]
  fuel := by
    have h1 := h.fuel
    rw [Array.toList_setIfInBounds, List.count_set (by simpa using hi)]
    have : listed.toList[i]'(by simpa using hi) = false := by
      simpa [hi] using hnl
    rw [this]
    simp only [beq_self_eq_true, if_true, show (true == false) = false from rfl, Bool.false_eq_true, if_false]
    omega
  closed j oj hj hl e he hb := by
    rw [li_put hi] at hl ⊢
    rcases hl with hl | rfl
    · exact .inl (h.closed j oj hj hl e he hb)
    · rw [ho] at hj
      cases hj
      exact .inl (hrd e he hb)
  cn := cn
  cN := cN
  tail j oj hj hn hp := by rw [li_put hi]; exact tail j oj hj hn hp
  heads j oj hj hn hp hc k ok hk hkn h1 h2 := by rw [li_put hi]; exact heads j oj hj hn hp hc k ok hk hkn h1 h2
  rel := hr
  none k ok hk hkn hl := none k ok hk hkn (by rw [li_put hi] at hl; exact hl)
  tm t i0 hi0 hw := by
    have hilt := (List.getElem?_eq_some_iff.1 ho).1
    by_cases q : o.dst = some t
    · have hlt : i < i0 := (hw i o ho q).1 ((li_put hi).2 (.inr rfl))
      rw [hd.tkeeps (t := t) (i := i + 1) (j := i0) (by omega) hi0 fun k ok hk h1 h2 hkt => ?_]
      · rw [hd.t1 ho, q]
        show R _ (((T i).set t (d i)).getD t .any) ((a.put (some t) v).tmps.getD t undef)
        by_cases ql : t < (T i).length
        · have hsz : t < a.tmps.size := by rw [h.tms, ← hd.tlen i (by omega)]; exact ql
          rw [List.getD_eq_getElem?_getD, List.getElem?_set_self ql]
          show R _ (d i) ((a.tmps.setIfInBounds t v).getD t undef)
          have : (a.tmps.setIfInBounds t v).getD t undef = v := by simp [hsz]
          rw [this]
          exact hv
        · rw [List.getD_eq_getElem?_getD, List.getElem?_eq_none (by simpa using ql)]
          trivial
      · have hlk := (li_put hi).1 ((hw k ok hk hkt).2 h2)
        have hlk := hlk.resolve_right (by omega)
        have := anc_closed (L := Li listed) h.closed k ok hk (h.closed k ok hk hlk) i (hd.st.ssa1 i k o ok t ho hk (by omega) q hkt)
        rw [Li, hnl] at this
        cases this
    · have h1 := h.tm t i0 hi0 fun k ok hk hkt => by
        rw [← hw k ok hk hkt, li_put hi]
        exact ⟨.inl, fun x => x.resolve_right fun e => by subst e; rw [ho] at hk; cases hk; exact q hkt⟩
      have h2 : (a.put o.dst v).tmps.getD t undef = a.tmps.getD t undef := by
        cases hx : o.dst with
        | none => rfl
        | some u =>
          have hne : u ≠ t := fun e => q (by rw [hx, e])
          show (a.tmps.setIfInBounds u v).getD t undef = _
          simp [Array.getElem?_setIfInBounds_ne hne]
      rw [h2]
      exact R.mono hs.le _ _ h1
  tms := by
    rw [← h.tms]
    cases o.dst <;> simp [Act.put]
  loads k ok t x hk hkn hb hl := loads k ok t x hk hkn hb (by rw [li_put hi] at hl; exact hl)
  step := h.step.trans hs
  dfs := by rw [put_defers]; exact h.dfs.step hs

theorem lateOk_spec {P : Program} {tm : List D} {n an : Nat} {o : Oper} : ∀ {l : List Oper} {i0 : Nat}, lateOk P tm n an o i0 l = true → ∀ {j : Nat} {p : Oper} {t : TypeId} {x : Operand}, l[j]? = some p → i0 + j < n → p.op = .load t x → an.testBit (i0 + j) = false →
    ∃ t' x' y, o.op = .store t' x' y ∧ awayD (ev P 0 tm x) (P.cellsOf t) (ev P 0 tm x') (P.cellsOf t') = true
  | [], i0, _, j, p, t, x, hj, _, _, _ => by simp at hj
  | q :: l, i0, h, 0, p, t, x, hj, hn, hp, ht => by
    simp only [List.getElem?_cons_zero, Option.some.injEq] at hj
    subst hj
    rw [Nat.add_zero] at hn ht
    unfold lateOk at h
    rw [Bool.and_eq_true] at h
    have h := h.1
    rw [ht, hp, decide_eq_false (by omega)] at h
    simp only [loadOp, Bool.not_true, Bool.false_or, Bool.or_false] at h
    split at h
    · rename_i t0 x0 t' x' y e1 e2
      cases e1
      exact ⟨t', x', y, e2, h⟩
    · cases h
  | q :: l, i0, h, j + 1, p, t, x, hj, hn, hp, ht => by
    unfold lateOk at h
    rw [Bool.and_eq_true] at h
    exact lateOk_spec h.2 (j := j) (by simpa using hj) (by omega) hp (by rw [show i0 + 1 + j = i0 + (j + 1) by omega]; exact ht)

theorem all_listed (hd : Dr E ro n ops T Z d b) (hsz : listed.size = ops.length) (hr : Region.ready .any ops.toArray listed = []) : ∀ (j : Nat), j < ops.length → Li listed j := by
  intro j
  induction j using Nat.strongRecOn with
  | ind j ih =>
    intro hj
    cases q : listed.getD j false with
    | true => exact q
    | false =>
      have ho : ops[j]? = some ops[j] := List.getElem?_eq_getElem hj
      have : j ∈ Region.ready .any ops.toArray listed := by
        refine mem_ready.2 ⟨?_, ops[j], by simp [hj], fun e he hb => ?_⟩
        · have hlt : j < listed.size := by omega
          simpa [hlt] using q
        · have hlt := hd.st.edges j _ ho e (by simpa using he) hb
          exact ih e.on hlt (by omega)
      rw [hr] at this
      cases this

theorem Inv.done (hd : Dr E ro n ops T Z d b) (h : Inv E ro n ops T Z d b X N0 ρ0 σ0 w0 fuel listed a w ρ c) (hr : Region.ready .any ops.toArray listed = []) :
    Rel X ρ (Z ops.length) w ∧ Rs (sit X ρ (Z ops.length) w) (T ops.length) a.tmps.toList ∧ Step ro X ρ0 σ0 w0 ρ (Z ops.length) w ∧ Dfs N0 ρ w a.defers := by
  have hall := all_listed hd h.size hr
  have hz : Z ops.length = Z c := hd.consts h.cn h.cN (Nat.le_refl _) fun k o ho h1 h2 => by
    cases q : pureOp o.op with
    | true => rfl
    | false =>
      have := (h.tail k o ho (Nat.le_trans h.cn h1) q).1 (hall k h2)
      omega
  rw [hz]
  refine ⟨h.rel, Rs.mk (by rw [Array.length_toList, h.tms, hd.tlen _ (Nat.le_refl _)]) fun t x v ht hv => ?_, h.step, h.dfs⟩
  have := h.tm t ops.length (Nat.le_refl _) fun k o hk _ => ⟨fun _ => (List.getElem?_eq_some_iff.1 hk).1, fun q => hall k q⟩
  rw [List.getD_eq_getElem?_getD, ht] at this
  have hv' : a.tmps.getD t undef = v := by
    rw [Array.getElem?_toList] at hv
    rw [Array.getD_eq_getD_getElem?, hv]
    rfl
  rw [hv'] at this
  exact this

end
end Go.Am
namespace Go.Am
open Go

section
variable {E : Env} {ro n : Nat} {ops : List Oper} {T : Nat → List D} {Z : Nat → List Ent} {d : Nat → D} {b : Nat → Bool}
variable {X : Pl} {N0 : Nat} {ρ0 : Rn} {σ0 : List Ent} {w0 : World} {fuel : Nat} {listed : Array Bool} {a : Act} {w : World} {ρ : Rn} {c : Nat}

theorem not_calm_pure {op : Op} (h : calmOp op = false) : pureOp op = false := by
  unfold calmOp at h
  rw [Bool.or_eq_false_iff] at h
  exact h.1
theorem load_not_calm {t : TypeId} {x : Operand} : calmOp (.load t x) = false ∧ pureOp (.load t x) = false := ⟨rfl, rfl⟩

/-- What asks of memory behind `n`: where things stand when it comes up. -/
theorem Inv.at_tail (hd : Dr E ro n ops T Z d b) (h : Inv E ro n ops T Z d b X N0 ρ0 σ0 w0 fuel listed a w ρ c) {i : Nat} {o : Oper} (ho : ops[i]? = some o) (hn : n ≤ i) (hp : pureOp o.op = false) (hnl : listed.getD i false = false)
    (hrd : ∀ e ∈ o.after.toList, binds e = true → Li listed e.on) :
    Z i = Z c ∧ (∀ (j : Nat) (oj : Oper), ops[j]? = some oj → n ≤ j → pureOp oj.op = false → (Li listed j ∨ j = i ↔ j < i + 1)) ∧
      (∀ (k : Nat) (o' : Oper), ops[k]? = some o' → k < n → calmOp o'.op = false → loadOp o'.op = false → Li listed k) := by
  have anc : ∀ k, ((ancs ops []).getD i 0).testBit k = true → Li listed k := fun k q => anc_closed (L := Li listed) h.closed i o ho hrd k q
  have hni : ¬ Li listed i := by rw [Li, hnl]; simp
  have low : ∀ (j : Nat) (oj : Oper), ops[j]? = some oj → n ≤ j → pureOp oj.op = false → j < i → Li listed j := fun j oj hj hnj hpj hji => by
    rcases hd.st.tail j i oj o hj ho hji hn hp with q | q | q | q
    · rw [hpj] at q; cases q
    · omega
    · exact anc j q
    · omega
  have high : ∀ (j : Nat) (oj : Oper), ops[j]? = some oj → n ≤ j → pureOp oj.op = false → i < j → ¬ Li listed j := fun j oj hj hnj hpj hji hl => by
    rcases hd.st.tail i j o oj ho hj hji hnj hpj with q | q | q | q
    · rw [hp] at q; cases q
    · omega
    · exact hni (anc_closed (L := Li listed) h.closed j oj hj (h.closed j oj hj hl) i q)
    · omega
  have hci : c ≤ i := by
    rcases Nat.lt_or_ge i c with q | q
    · exact (hni ((h.tail i o ho hn hp).2 q)).elim
    · exact q
  refine ⟨hd.consts h.cn hci (Nat.le_of_lt (List.getElem?_eq_some_iff.1 ho).1) fun k ok hk h1 h2 => ?_, fun j oj hj hnj hpj => ⟨fun q => ?_, fun q => ?_⟩, fun k ok hk hkn h1 h2 => ?_⟩
  · cases q : pureOp ok.op with
    | true => rfl
    | false =>
      have := (h.tail k ok hk (Nat.le_trans h.cn h1) q).1 (low k ok hk (Nat.le_trans h.cn h1) q h2)
      omega
  · rcases q with q | q
    · rcases Nat.lt_or_ge i j with q2 | q2
      · exact (high j oj hj hnj hpj q2 q).elim
      · omega
    · omega
  · rcases Nat.lt_or_ge j i with q2 | q2
    · exact .inl (low j oj hj hnj hpj q2)
    · exact .inr (by omega)
  · rcases hd.st.tail k i ok o hk ho (by omega) hn hp with q | q | q | q
    · rw [not_calm_pure h1] at q; cases q
    · rw [h1] at q; cases q.2
    · exact anc k q
    · rw [h2] at q; cases q.2.1

theorem Inv.late (hd : Dr E ro n ops T Z d b) (h : Inv E ro n ops T Z d b X N0 ρ0 σ0 w0 fuel listed a w ρ c) {i : Nat} {o : Oper} (ho : ops[i]? = some o) (hn : n ≤ i) (hp : pureOp o.op = false) (hz : Z i = Z c)
    (hrd : ∀ e ∈ o.after.toList, binds e = true → Li listed e.on) (k : Nat) (ok : Oper) (t : TypeId) (x : Operand) (hk : ops[k]? = some ok) (hkn : k < n) (hb : b k = true) (hl : ¬ Li listed k) (hop : ok.op = .load t x) :
    loadD E.P (Z (i + 1)) t (ev E.P 0 (T k) x) = some (d k) := by
  have h1 := h.loads k ok t x hk hkn hb hl hop
  rw [← hz] at h1
  obtain ⟨_, _, h3, h4⟩ := hd.good i o ho
  cases q : b i with
  | false => rw [(h3 q).2]; exact h1
  | true =>
    cases h4 q with
    | calm _ hs => rw [hs]; exact h1
    | load _ _ _ _ _ hs => rw [hs]; exact h1
    | head q => omega
    | tail _ _ _ _ late st =>
      have ht : ((ancs ops []).getD i 0).testBit k = false := by
        cases q2 : ((ancs ops []).getD i 0).testBit k with
        | false => rfl
        | true => exact (hl (anc_closed (L := Li listed) h.closed i o ho hrd k q2)).elim
      obtain ⟨t', x', y, hst, haw⟩ := lateOk_spec late (j := k) (p := ok) (t := t) (x := x) (by rw [List.getElem?_take, if_pos (by omega)]; exact hk) (by omega) hop (by rw [Nat.zero_add]; exact ht)
      have hev : ev E.P 0 (T i) x = ev E.P 0 (T k) x := by
        cases x with
        | tmp u =>
          refine hd.tkeeps (t := u) (by omega) (Nat.le_of_lt (List.getElem?_eq_some_iff.1 ho).1) fun m om hm h5 h6 hmu => ?_
          refine hd.st.ssa3 k m ok om u hk hm h5 hmu (by rw [hop]; rfl) ?_
          refine List.mem_append_left _ (List.mem_filterMap.2 ⟨.tmp u, ?_, rfl⟩)
          rw [hop]
          simp [Op.operands]
        | const v => rfl
        | func f => rfl
        | global g => rfl
      rw [hev] at haw
      exact loadD_cells (fun l hl => away_ok (st t' x' y hst) haw hl) h1

theorem any_ok (hd : Dr E ro n ops T Z d b) {l : Option Nat} {nn : Nat} {Q : Exit → Act → World → Prop}
    (hQ : ∀ a' ρ' w', Rel X ρ' (Z ops.length) w' → Rs (sit X ρ' (Z ops.length) w') (T ops.length) a'.tmps.toList → Step ro X ρ0 σ0 w0 ρ' (Z ops.length) w' → Dfs N0 ρ' w' a'.defers → Q .normal a' w') :
    ∀ (fuel : Nat) (listed : Array Bool) (a : Act) (w : World) (ρ : Rn) (c : Nat), Inv E ro n ops T Z d b X N0 ρ0 σ0 w0 fuel listed a w ρ c → wpAnyIn (fen l) nn E.P .any ops.toArray Q fuel listed a w
  | 0, listed, a, w, ρ, c, h => by
    have hr : Region.ready .any ops.toArray listed = [] := by
      cases q : Region.ready .any ops.toArray listed with
      | nil => rfl
      | cons i rest =>
        obtain ⟨o, ho, hlt, hnl, _⟩ := ready_spec (ops := ops) (listed := listed) (i := i) (by rw [q]; exact List.mem_cons_self ..)
        have h1 := h.fuel
        have : false ∈ listed.toList := by
          rw [List.mem_iff_getElem]
          exact ⟨i, by simpa using hlt, by simpa [hlt] using hnl⟩
        have := List.count_pos_iff.2 this
        omega
    obtain ⟨h1, h2, h3, h4⟩ := h.done hd hr
    exact ⟨hr, hQ a ρ w h1 h2 h3 h4⟩
  | fuel + 1, listed, a, w, ρ, c, h => by
    refine ⟨fun hr => ?_, fun i hi => ?_⟩
    · obtain ⟨h1, h2, h3, h4⟩ := h.done hd hr
      exact hQ a ρ w h1 h2 h3 h4
    obtain ⟨o, ho, hlt, hnl, hrd⟩ := ready_spec hi
    have ho' : ops.toArray[i]? = some o := by simpa using ho
    have hil := (List.getElem?_eq_some_iff.1 ho).1
    have hni : ¬ Li listed i := by rw [Li, hnl]; simp
    have hlook := h.look hd ho hnl hrd
    have hev : EvR (sit X ρ (Z c) w) E.P a (T i) o.op.operands.toList := look_ev hlook
    obtain ⟨_, hg, h3, h4⟩ := hd.good i o ho
    have hw := guardV_ok hg hlook
    unfold wpOpIn
    simp only [ho']
    rw [hw]
    -- one that changes nothing and is not asked to wait
    have still : ∀ v, ((n ≤ i → pureOp o.op = true) ∧ (i < n → calmOp o.op = true ∨ loadOp o.op = true ∨ b i = false)) → R (sit X ρ (Z c) w) (d i) v → wpAnyIn (fen l) nn E.P .any ops.toArray Q fuel (listed.setIfInBounds i true) (a.put o.dst v) w := fun v hk hv => by
      refine any_ok hd hQ fuel _ _ w ρ c (h.put hd ho hlt hnl hrd h.rel (Step.refl _ _ _ _ _) hv h.cn h.cN (fun j oj hj hnj hpj => ?_) (fun j oj hj hnj hpj hjc k o' hk hkn h1 h2 => .inl (h.heads j oj hj hnj hpj hjc k o' hk hkn h1 h2)) (fun k ok hk hkn hl => h.none k ok hk hkn fun q => hl (.inl q)) fun k ok t x hk hkn hb hl => h.loads k ok t x hk hkn hb fun q => hl (.inl q))
      rw [← h.tail j oj hj hnj hpj]
      exact ⟨fun q => q.resolve_right fun e => (by subst e; rw [ho] at hj; cases hj; rw [hk.1 hnj] at hpj; cases hpj), fun q => .inl q⟩
    cases q : b i with
    | false =>
      simp only [Bool.false_eq_true, if_false]
      refine ⟨fun f _ => fen_fn l f, ?_⟩
      have hdi := (h3 q).1
      have hzi := (h3 q).2
      by_cases hn : n ≤ i
      · cases hp : pureOp o.op with
        | true => exact still undef ⟨fun _ => hp, fun q => by omega⟩ (by rw [hdi]; exact ⟨[], rfl, rfl⟩)
        | false =>
          obtain ⟨hz, ht, hh⟩ := h.at_tail hd ho hn hp hnl hrd
          have hz1 : Z (i + 1) = Z c := by rw [hzi, hz]
          refine any_ok hd hQ fuel _ _ w ρ (i + 1) (h.put hd ho hlt hnl hrd (v := undef) (by rw [hz1]; exact h.rel) (by rw [hz1]; exact Step.refl _ _ _ _ _) (by rw [hdi]; exact ⟨[], rfl, rfl⟩) (by omega) hil ht (fun j oj _ _ _ _ k o' hk hkn h1 h2 => .inl (hh k o' hk hkn h1 h2)) (fun k ok hk hkn hl => h.none k ok hk hkn fun q => hl (.inl q)) fun k ok t x hk hkn hb hl hop => ?_)
          rw [hz1]
          exact h.loads k ok t x hk hkn hb (fun q => hl (.inl q)) hop
      · exact still undef ⟨fun q => by omega, fun _ => .inr (.inr q)⟩ (by rw [hdi]; exact ⟨[], rfl, rfl⟩)
    | true =>
      simp only [if_true]
      have hnd := (hd.st.nosel o (List.mem_of_getElem? ho)).1
      cases h4 q with
      | calm hc hs hk =>
        have hkin : pureOp o.op = true ∨ Kin (Z i) (Z c) := hc.imp id fun q => (hd.zz (Nat.le_trans (Nat.le_of_lt q.1) h.cn) h.cN).2
        obtain ⟨v, hv1, hv2⟩ := hk _ hkin X ρ w a h.rel hev
        refine wpIn_val hnd (.inl hv1) (still v ⟨fun hn => hc.resolve_right (by omega), fun hn => .inl ?_⟩ hv2)
        rcases hc with hc | hc
        · unfold calmOp; rw [hc]; rfl
        · exact hc.2
      | load hn _ t x hop hs hl =>
        obtain ⟨ad, u, h5, h6, h7⟩ := loadD_ok (P := E.P) h.rel (hev x (by simp [hop, Op.operands]) 0) (h.loads i o t x ho hn q hni hop)
        exact wpIn_val hnd (.inl (by simp [execOp, hop, Instr.loadAt, Instr.sureAddr, h5, h6])) (still u ⟨fun hn => by omega, fun _ => .inr (.inl (by rw [hop]; rfl))⟩ h7)
      | head hn hc hl hk hp h1 h2 =>
        have hzc : Z c = Z n := hd.consts (Nat.le_refl _) h.cn h.cN fun k ok hk' h5 h6 => by
          cases q2 : pureOp ok.op with
          | true => rfl
          | false => exact (hni (h.heads k ok hk' h5 q2 h6 i o ho hn hc hl)).elim
        have hnN := hd.st.hn
        refine head_ok (σ := Z c) (ro := ro) h.rel (fun j hj => by rw [hzc]; exact (hd.lows (by omega) (Nat.le_refl _)).1 j hj) (fun j hj => by rw [hzc]; exact (hd.lows hn (Nat.le_refl _)).1 j hj) hp.2.length (hd.roz (by omega)) (h.none i o ho hn hni) h1 h2 hk hev fun v ρ' w' h5 h6 h7 h8 => ?_
        refine any_ok hd hQ fuel _ _ w' ρ' c (h.put hd ho hlt hnl hrd h5 h7 h6 h.cn h.cN (fun j oj hj hnj hpj => ?_) (fun j oj hj hnj hpj hjc k o' hk hkn h1 h2 => .inl (h.heads j oj hj hnj hpj hjc k o' hk hkn h1 h2)) (fun k ok hk hkn hlk id hid1 hid2 => ?_) fun k ok t x hk hkn hb hl => h.loads k ok t x hk hkn hb fun q => hl (.inl q))
        · rw [← h.tail j oj hj hnj hpj]
          exact ⟨fun q => q.resolve_right fun e => (by omega), fun q => .inl q⟩
        · rw [h8 id ?_]
          · exact h.none k ok hk hkn (fun q => hlk (.inl q)) id hid1 hid2
          · rcases Nat.lt_trichotomy k i with q2 | q2 | q2
            · have := (hd.lows (i := k + 1) (j := i) (by omega) (by omega)).2.length
              exact .inl (by omega)
            · exact (hlk (.inr q2)).elim
            · have := (hd.lows (i := i + 1) (j := k) (by omega) (by omega)).2.length
              exact .inr (by omega)
      | tail hn hp hk pre late st =>
        obtain ⟨hz, ht, hh⟩ := h.at_tail hd ho hn hp hnl hrd
        have hrel := h.rel
        rw [← hz] at hrel hev
        refine hk X ρ w a l nn _ Q hrel (hd.roz (by omega)) hev fun v ρ' w' h5 h6 h7 => ?_
        refine any_ok hd hQ fuel _ _ w' ρ' (i + 1) (h.put hd ho hlt hnl hrd h5 (by rw [← hz]; exact h7) h6 (by omega) hil ht (fun j oj _ _ _ _ k o' hk hkn h1 h2 => .inl (hh k o' hk hkn h1 h2)) (fun k ok hk hkn hlk id hid1 hid2 => ?_) fun k ok t x hk hkn hb hl hop => h.late hd ho hn hp hz hrd k ok t x hk hkn hb (fun q => hl (.inl q)) hop)
        by_cases hhd : calmOp ok.op = false ∧ loadOp ok.op = false
        · exact (hlk (.inl (hh k ok hk hkn hhd.1 hhd.2))).elim
        · -- it makes nothing
          obtain ⟨_, _, g3, g4⟩ := hd.good k ok hk
          have : Z (k + 1) = Z k := by
            cases q2 : b k with
            | false => exact (g3 q2).2
            | true =>
              cases g4 q2 with
              | calm _ hs => exact hs
              | load _ _ _ _ _ hs => exact hs
              | head _ hc hl => exact (hhd ⟨hc, hl⟩).elim
              | tail hn => omega
          rw [this] at hid2
          omega

end
end Go.Am
namespace Go.Am
open Go

/-- Entries that have no block yet. -/
theorem rel_more {X : Pl} {ρ : Rn} {σ σ' : List Ent} {w : World} (hr : Rel X ρ σ w) (h : ∀ i, i < σ.length → σ'[i]? = σ[i]?) : Rel X ρ σ' w where
  inj := hr.inj
  ent i g hi := by
    obtain ⟨e, h1, h2⟩ := hr.ent i g hi
    exact ⟨e, by rw [h i (hr.lt hi).1]; exact h1, h2.mono (le_more hr (fun _ _ => rfl) (fun i g h h' => by have := (hr.lt h').1; omega) h (fun _ _ => rfl))⟩
  top := hr.top
  fr := hr.fr
theorem step_mores {ro : Nat} {X : Pl} {ρ : Rn} {σ σ' : List Ent} {w : World} (hr : Rel X ρ σ w) (hro : ro ≤ σ.length) (h : ∀ i, i < σ.length → σ'[i]? = σ[i]?) : Step ro X ρ σ w ρ σ' w :=
  step_more hr hro (fun _ _ => rfl) (fun i g h h' => by have := (hr.lt h').1; omega) h (fun _ _ => rfl) (Nat.le_refl _) rfl rfl rfl
/-- A block that nobody names. -/
theorem rel_alloc {ro : Nat} {X : Pl} {ρ : Rn} {σ : List Ent} {w : World} (hr : Rel X ρ σ w) (hro : ro ≤ σ.length) (o : Obj) : Rel X ρ σ (w.alloc o) ∧ Step ro X ρ σ w ρ σ (w.alloc o) := by
  have hst : Step ro X ρ σ w ρ σ (w.alloc o) := step_more hr hro (fun _ _ => rfl) (fun i g h h' => by have := (hr.lt h').1; omega) (fun _ _ => rfl) (fun b hb => RowKit.Below.heap_alloc _ _ _ hb) (by rw [World.size_alloc]; omega) rfl rfl rfl
  exact ⟨⟨hr.inj, fun i g hi => by
    obtain ⟨e, h1, h2⟩ := hr.ent i g hi
    exact ⟨e, h1, (h2.mono hst.le).world (RowKit.Below.heap_alloc _ _ _ (hr.lt hi).2)⟩, fun b o' hb => hr.top b o' (by rw [World.size_alloc] at hb; omega), hr.fr⟩, hst⟩

/-- What is told of code, at its end. -/
def Post (ro : Nat) (N : Nat) (X : Pl) (ρ : Rn) (σ : List Ent) (w : World) (e : Exit) (st' : St) : Exit → Act → World → Prop :=
  fun e2 a' w' => e2 = e ∧ ∃ ρ', Rel X ρ' st'.σ w' ∧ Rs (sit X ρ' st'.σ w') st'.tm a'.tmps.toList ∧ Step ro X ρ σ w ρ' st'.σ w' ∧ Dfs N ρ' w' a'.defers

theorem drawn_ok {E : Env} (hE : EnvOk E) {ro : Nat} {rnd : Option Nat} {id : Nat} {ops : Array Oper} {st : St} {k : St → Option Res} {r : Res} (hro0 : ro ≤ st.σ.length)
    (hc : (edgesOk ops.toList && pairsOk ops.toList (ancs ops.toList []) && ssaOk ops.toList (ancs ops.toList []) && noSelB ops.toList && tailOk ops.toList (ancs ops.toList []) (tailAt ops.toList (ancs ops.toList []) ops.toList.length 0)) = true)
    (h : drawnD E ro (tailAt ops.toList (ancs ops.toList []) ops.toList.length 0) (ancs ops.toList []) ops.toList 0 ops.toList st k = some r) :
    ∃ st', k st' = some r ∧ CodeOk E.P ro rnd (.region id ops true) st .normal st' ∧ Pre ro st.σ st'.σ := by
  have hn := tailAt_le ops.toList (ancs ops.toList []) ops.toList.length 0
  rw [Nat.zero_add] at hn
  have hs := static_ok hn hc
  generalize tailAt ops.toList (ancs ops.toList []) ops.toList.length 0 = n at *
  obtain ⟨T, Z, d, b, e1, e2, e3, e4⟩ := drawnD_tr hE hs.nosel ops.toList 0 st k r rfl (Nat.zero_le _) hro0 h
  have hd : Dr E ro n ops.toList T Z d b := ⟨hs, fun j o ho => e4 j o (Nat.zero_le _) ho, by rw [e2]; exact hro0⟩
  refine ⟨_, e3, fun X ρ w a l nn N hr hro ha hrn hN hdf => ?_, by rw [← e2]; exact hd.zz (Nat.zero_le _) (Nat.le_refl _)⟩
  refine wpIn_region_any hE.mixed ?_
  have hr1 := hr.heap (w' := { w with drawn := w.drawn + 1 }) rfl
  have hs1 := Step.draw ro X ρ st.σ w (w.drawn + 1)
  have hpre : ∀ i, i < st.σ.length → (Z n)[i]? = st.σ[i]? := fun i hi => by
    rw [← e2] at hi ⊢
    exact (hd.lows (Nat.zero_le _) (Nat.le_refl _)).1 i hi
  have hs2 := hs1.trans (step_mores hr1 hro hpre)
  have hr2 := rel_more hr1 hpre
  have hnl : ∀ j, ¬ Li (Array.replicate ops.size false) j := fun j => by
    unfold Li
    by_cases q : j < ops.size <;> simp [q]
  have hinv : Inv E ro n ops.toList T Z d b X N ρ st.σ w ops.size (Array.replicate ops.size false) a { w with drawn := w.drawn + 1 } ρ n := by
    refine ⟨by simp, ?_, fun j o ho hl => (hnl j hl).elim, Nat.le_refl _, hn, fun j o ho hnj hp => ⟨fun hl => (hnl j hl).elim, fun q => by omega⟩, fun j o ho hnj hp hjn => by omega, hr2, fun i o ho hin _ id hid1 hid2 => ?_, fun t i hi hw => ?_, ?_, fun i o t x ho hin hb _ hop => ?_, hs2, Dfs.step hs2 hdf⟩
    · exact Nat.le_trans List.count_le_length (by simp)
    · refine hr.none ?_
      rw [← e2]
      exact Nat.le_trans ((hd.lows (Nat.zero_le i) (Nat.le_of_lt hin)).2.length) hid1
    · rw [hd.tkeeps (t := t) (Nat.zero_le _) hi fun k o hk _ hki hkt => hnl k ((hw k o hk hkt).2 hki), e1]
      exact R.mono hs2.le _ _ (ev_ok (P := E.P) ha 0 (.tmp t))
    · rw [e1, ← Rs.length ha]
      simp
    · obtain ⟨_, _, _, g4⟩ := hd.good i o ho
      cases g4 hb with
      | calm hc => rw [hop] at hc; simp [pureOp, calmOp] at hc
      | head _ _ hl => rw [hop] at hl; cases hl
      | tail hn => omega
      | load _ _ t' x' ho' _ hl =>
        rw [hop] at ho'
        cases ho'
        exact loadD_cells (fun l hl => loadCells_pre (fun j hj => (hd.lows (Nat.le_of_lt hin) (Nat.le_refl _)).1 j hj) hl) hl
  have := any_ok (l := l) (nn := nn) (Q := Post ro N X ρ st.σ w .normal ⟨T ops.toList.length, Z ops.toList.length⟩) hd (fun a' ρ' w' h1 h2 h3 h4 => ⟨rfl, ρ', h1, h2, h3, h4⟩) _ _ _ _ _ _ hinv
  rw [Array.toArray_toList] at this
  exact this

/-! ### Loops -/
theorem loopD_ok {E : Env} {ro : Nat} {rnd : Option Nat} {c : Code} {B : St → (Exit → St → Option Res) → Option Res} {bid : Nat}
    (hB : ∀ st k r, ro ≤ st.σ.length → B st k = some r → ∃ e st', k e st' = some r ∧ CodeOk E.P ro rnd c st e st' ∧ Pre ro st.σ st'.σ) {σ0 : List Ent} (hro0 : ro ≤ σ0.length) :
    ∀ (m : Nat) (st : St) (k : Exit → St → Option Res) (r : Res), Pre ro σ0 st.σ → loopD E B bid σ0.length m st k = some r → ∃ e st', k e st' = some r ∧ Pre ro σ0 st'.σ ∧
      ∀ X ρ0 w0 ρ w (a : Act) (l : Option Nat) (nn N : Nat), Step ro X ρ0 σ0 w0 ρ st.σ w → Rel X ρ st.σ w → Rs (sit X ρ st.σ w) st.tm a.tmps.toList → RndOk (sit X ρ0 σ0 w0) rnd l → N ≤ w0.heap.size → Dfs N ρ w a.defers →
        Code.roundsIn (fen l) nn E.P c (Post ro N X ρ0 σ0 w0 e st') m a w
  | 0, st, k, r, _, h => by cases h
  | m + 1, st, k, r, hp, h => by
    unfold loopD at h
    have hro : ro ≤ st.σ.length := Nat.le_trans hro0 hp.2.length
    obtain ⟨e1, st1, h1, hc1, hp1⟩ := hB _ _ _ hro h
    have hp2 := hp.trans hp1
    -- out of the loop
    have out : ∀ kp, e1 ≠ .normal → k e1 (st1.mask kp) = some r → ∃ e st', k e st' = some r ∧ Pre ro σ0 st'.σ ∧
      ∀ X ρ0 w0 ρ w (a : Act) (l : Option Nat) (nn N : Nat), Step ro X ρ0 σ0 w0 ρ st.σ w → Rel X ρ st.σ w → Rs (sit X ρ st.σ w) st.tm a.tmps.toList → RndOk (sit X ρ0 σ0 w0) rnd l → N ≤ w0.heap.size → Dfs N ρ w a.defers →
        Code.roundsIn (fen l) nn E.P c (Post ro N X ρ0 σ0 w0 e st') (m + 1) a w := fun kp hne hk => by
      refine ⟨e1, _, hk, by rw [St.mask_σ]; exact hp2, fun X ρ0 w0 ρ w a l nn N hs hr ha hrn hN hdf => ?_⟩
      rw [roundsIn_succ]
      refine wpIn_mono (hc1 X ρ w a l nn N hr hro ha (hrn.mono hs.le) (Nat.le_trans hN hs.size) hdf) ?_
      rintro e2 a' w' ⟨rfl, ρ', q1, q2, q3, q4⟩
      have : Post ro N X ρ0 σ0 w0 e2 (st1.mask kp) e2 a' w' := ⟨rfl, ρ', by rw [St.mask_σ]; exact q1, by rw [St.mask_σ]; exact St.mask_ok kp q2, by rw [St.mask_σ]; exact hs.trans q3, q4⟩
      cases e2 <;> first | exact (hne rfl).elim | exact this
    cases e1 with
    | normal =>
      have hp3 : Pre ro σ0 ((st1.mask (E.keep bid)).trunc σ0.length).σ := by
        unfold St.trunc
        split
        · show Pre ro σ0 ((st1.mask (E.keep bid)).σ.take _)
          rw [St.mask_σ]
          exact hp2.take (Nat.le_refl _) hro0
        · rw [St.mask_σ]
          exact hp2
      obtain ⟨e, st', h2, h3, h4⟩ := loopD_ok hB hro0 m _ k r hp3 h1
      refine ⟨e, st', h2, h3, fun X ρ0 w0 ρ w a l nn N hs hr ha hrn hN hdf => ?_⟩
      rw [roundsIn_succ]
      refine wpIn_mono (hc1 X ρ w a l nn N hr hro ha (hrn.mono hs.le) (Nat.le_trans hN hs.size) hdf) ?_
      rintro e2 a' w' ⟨rfl, ρ', q1, q2, q3, q4⟩
      obtain ⟨ρ2, u1, u2, u3, _, u5⟩ := trunc_ok (st := st1.mask (E.keep bid)) (vs := a'.tmps.toList) (n := σ0.length) (by rw [St.mask_σ]; exact q1) (by rw [St.mask_σ]; exact St.mask_ok _ q2) (by rw [St.mask_σ]; exact hs.trans q3) (Nat.le_refl _) hro0
      exact h4 X ρ0 w0 ρ2 w' a' l nn N u3 u1 u2 hrn hN (u5 _ _ q4)
    | ret => exact out _ (by simp) h1
    | exit i => exact out _ (by simp) h1
    | goto t => exact out _ (by simp) h1
    | panic ch => exact out _ (by simp) h1
    | outgrown => exact out _ (by simp) h1

theorem Code.roundsIn_mono {F : Fence} {n : Nat} {P : Program} {c : Code} {Q Q' : Exit → Act → World → Prop} : ∀ {m : Nat} {a : Act} {w : World}, Code.roundsIn F n P c Q m a w → (∀ e a w, Q e a w → Q' e a w) → Code.roundsIn F n P c Q' m a w
  | 0, _, _, h, _ => h
  | m + 1, a, w, h, hq => by
    rw [roundsIn_succ] at h ⊢
    refine wpIn_mono h fun e a w q => ?_
    cases e <;> first | exact Code.roundsIn_mono q hq | exact hq _ _ _ q

/-! ### Scopes -/
theorem wpIn_scope {F : Fence} {n : Nat} {P : Program} {Q : Exit → Act → World → Prop} {a : Act} {w : World} {c : Code} (h : c.wpIn F n P (Exit.noGoto Q) a w) : (Code.scope c).wpIn F n P Q a w := by
  intro b k cs hro hb hr
  have h0 : (lone (b.atR a (.code (.scope c) :: k)) cs w).fenced P F := fenced_calm hb hr rfl
  have s0 : step P (lone (b.atR a (.code (.scope c) :: k)) cs w) = .next (lone (b.atR a (.code c :: .inScope c :: k)) cs w) := step_lone_go (by simp [stepG, stepG.exec, Frame.atR])
  have s1 : ∀ a w, step P (lone (b.atR a (.inScope c :: k)) cs w) = .next (lone (b.atR a k) cs w) := fun a w => step_lone_go (by simp [stepG, stepG.exec, Frame.atR])
  obtain ⟨e, a₁, w₁, hq, harr⟩ := h b (.inScope c :: k) cs hro hb hr
  cases e with
  | normal => exact ⟨.normal, a₁, w₁, hq, .head h0 s0 (StepsIn.trans harr (.one (fenced_calm hb hr rfl) (s1 _ _)))⟩
  | exit id =>
    have hx : exitTo id (.inScope c :: k) = exitTo id k := by simp [exitTo]
    exact ⟨.exit id, a₁, w₁, hq, fun k' hk => .head h0 s0 (harr.1 k' (by rw [hx]; exact hk)), fun hr' hk => let ⟨k₁, h1, h2⟩ := harr.2 hr' (by rw [hx]; exact hk); ⟨k₁, h1, .head h0 s0 h2⟩⟩
  | goto l => exact hq.elim
  | ret => exact ⟨_, a₁, w₁, hq, .of_steps (.one h0 s0) harr⟩
  | panic ch => exact ⟨_, a₁, w₁, hq, .of_steps (.one h0 s0) harr⟩
  | outgrown => exact ⟨_, a₁, w₁, hq, .of_steps (.one h0 s0) harr⟩

/-! ### Code -/
theorem CodeOk.eq {P : Program} {ro : Nat} {rnd : Option Nat} {c : Code} {st st' : St} {e : Exit} (h : CodeOk P ro rnd c st e st') {X : Pl} {ρ : Rn} {w : World} {a : Act} {l : Option Nat} {n N : Nat} (hr : Rel X ρ st.σ w) (hro : ro ≤ st.σ.length)
    (ha : Rs (sit X ρ st.σ w) st.tm a.tmps.toList) (hrn : RndOk (sit X ρ st.σ w) rnd l) (hN : N ≤ w.heap.size) (hd : Dfs N ρ w a.defers) : c.wpIn (fen l) n P (Post ro N X ρ st.σ w e st') a w := h X ρ w a l n N hr hro ha hrn hN hd

def jumpPost (F : Fence) (n : Nat) (P : Program) (Q : Exit → Act → World → Prop) (p : Option Code) (a : Act) (w : World) : Prop :=
  match p with
  | none => Q .normal a w
  | some c => c.wpIn F n P Q a w

theorem rangePost_of {F : Fence} {n : Nat} {P : Program} {Q : Exit → Act → World → Prop} {p : Option Code} {a : Act} {w w' : World} {g : Nat} {v : Value} (h : (Instr.endLoop g).run P w = .ok p w') (k : jumpPost F n P Q p a w') : rangePost F n P g Q a (.returned v) w :=
  ⟨p, w', h, by cases p <;> exact k⟩

set_option maxHeartbeats 1000000 in
theorem rangeD_ok {E : Env} (hE : EnvOk E) {ro : Nat} {rnd : Option Nat} {f : Operand} {ps : Array Tmp} {as c : Code} {bid : Nat} {st : St} {k : Exit → St → Option Res} {r : Res} (hro0 : ro ≤ st.σ.length)
    (h : codeD E ro rnd (.rangeFunc f ps as c) bid st k = some r) : ∃ e st', k e st' = some r ∧ CodeOk E.P ro rnd (.rangeFunc f ps as c) st e st' ∧ Pre ro st.σ st'.σ := by
  unfold codeD at h
  split at h
  case h_2 => cases h
  rename_i g x y hf
  dsimp only at h
  obtain ⟨d, σ1, h1, hc, hp, fn, hfn, hbody⟩ := hE.call _ _ _ _ _ _ h (by rw [List.length_append]; omega)
  split at h1
  case h_2 => cases h1
  rename_i g' tm' ps' as' bd' s p he
  have hpre : ∀ p', Pre ro st.σ (σ1.set st.σ.length (.loop g' tm' ps' as' bd' .exhausted p')) := fun p' => ((Pre.app hro0 _).trans hp).trans (Pre.set hro0 he trivial)
  -- all but the pending jump
  have key : ∀ (e : Exit), s ≠ .busy → (∀ (Q : Exit → Act → World → Prop) (a' : Act) (w' : World) (l : Option Nat) (n : Nat), Q e a' w' → jumpPost (fen l) n E.P Q p a' w') →
      CodeOk E.P ro rnd (.rangeFunc f ps as c) st e ⟨st.tm, σ1.set st.σ.length (.loop g' tm' ps' as' bd' .exhausted p)⟩ := by
    intro e hnb hpost X ρ w a l n N hr hro ha hrn hN hdf
    have hfe := ev_ok (P := E.P) ha 0 f
    rw [hf] at hfe
    obtain ⟨vx, vy, e1, hx, hy⟩ := hfe
    refine wpIn_rangeFunc fun fid _ => ?_
    -- the record is laid
    obtain ⟨g0, mark, w1, L, hent, hrel, hstep, hmark⟩ : ∃ (g0 : Nat) (mark : List Deferred) (w1 : World) (L : Loop), (Instr.enterLoop fid a.tmps ps as c (fen l).round).run E.P w = .ok (g0, mark) w1 ∧
        Rel X (ρ.put st.σ.length (some g0)) (st.σ ++ [.loop E.self st.tm ps.toList as c .ready none]) w1 ∧
        Step ro X ρ st.σ w (ρ.put st.σ.length (some g0)) (st.σ ++ [.loop E.self st.tm ps.toList as c .ready none]) w1 ∧ Dfs N (ρ.put st.σ.length (some g0)) w1 (mark ++ a.defers) := by
      rw [fen_round]
      cases rnd with
      | none =>
        cases l with
        | some _ => exact hrn.elim
        | none =>
          have hL : ∃ L : Loop, L = { state := .ready, pending := none, fn := fid, tmps := a.tmps, params := ps, assign := as, body := c, defers := w.heap.size } := ⟨_, rfl⟩
          obtain ⟨L, hL⟩ := hL
          obtain ⟨r1, s1⟩ := rel_alloc (ro := ro) hr hro (.deferred (some []))
          have s2 := step_new r1 (ro := ro) hro (.loop L) (.loop E.self st.tm ps.toList as c .ready none)
          have r2 := rel_new r1 (.loop L) (.loop E.self st.tm ps.toList as c .ready none) ⟨L, heap_new _ _, by subst hL; exact Rs.mono (s1.trans s2).le _ _ ha, by subst hL; simp, by subst hL; rfl, by subst hL; rfl, by subst hL; rfl, by subst hL; rfl⟩
          rw [World.size_alloc] at r2 s2
          refine ⟨_, _, _, L, run_enterLoop_outer fid a.tmps ps as c, by rw [← hL]; exact r2, by rw [← hL]; exact s1.trans s2, ?_⟩
          rw [← hL]
          refine ⟨⟨w.heap.size, rfl, hN, fun i hi => ?_, ?_, fun e' he' hee => ?_⟩, Dfs.step (s1.trans s2) hdf⟩
          · unfold Rn.put at hi
            split at hi
            · simp at hi
            · have := (hr.lt hi).2
              omega
          · rw [RowKit.Below.heap_alloc _ _ _ (by rw [World.size_alloc]; omega)]
            exact heap_new _ _
          · have : ∀ (l : List Deferred), Dfs N ρ w l → ∀ e' ∈ l, e' ≠ { target := .collected w.heap.size, args := #[] } := by
              intro l
              induction l with
              | nil => exact fun _ e' he' => by cases he'
              | cons d' l ih =>
                rintro ⟨⟨b, q1, q2, q3, q4, q5⟩, q6⟩ e' he' hee
                rcases List.mem_cons.1 he' with q | q
                · subst q
                  rw [q1] at hee
                  injection hee with hee _
                  injection hee with hee
                  have := (Array.getElem?_eq_some_iff.1 q4).1
                  omega
                · exact ih q6 e' q hee
            exact this _ hdf e' he' hee
      | some id0 =>
        cases l with
        | none => exact hrn.elim
        | some b0 =>
          obtain ⟨hid, f0, tm0, ps0, a0, c0, s0, p0, he0⟩ := hrn
          obtain ⟨e0, q1, q2⟩ := hr.ent id0 b0 hid
          rw [he0] at q1
          cases q1
          obtain ⟨L0, q3, _⟩ := q2
          have hL : ∃ L : Loop, L = { state := .ready, pending := none, fn := fid, tmps := a.tmps, params := ps, assign := as, body := c, defers := L0.defers } := ⟨_, rfl⟩
          obtain ⟨L, hL⟩ := hL
          have s2 := step_new hr (ro := ro) hro (.loop L) (.loop E.self st.tm ps.toList as c .ready none)
          have r2 := rel_new hr (.loop L) (.loop E.self st.tm ps.toList as c .ready none) ⟨L, heap_new _ _, by subst hL; exact Rs.mono s2.le _ _ ha, by subst hL; simp, by subst hL; rfl, by subst hL; rfl, by subst hL; rfl, by subst hL; rfl⟩
          exact ⟨_, _, _, L, run_enterLoop_inner q3 fid a.tmps ps as c, by rw [← hL]; exact r2, by rw [← hL]; exact s2, Dfs.step (by rw [← hL]; exact s2) hdf⟩
    have hlp : (sit X (ρ.put st.σ.length (some g0)) (st.σ ++ [.loop E.self st.tm ps.toList as c .ready none]) w1).lp st.σ.length g0 := ⟨if_pos rfl, _, _, _, _, _, _, _, get_new _ _⟩
    have hyv : R (sit X (ρ.put st.σ.length (some g0)) (st.σ ++ [.loop E.self st.tm ps.toList as c .ready none]) w1) (.yld st.σ.length) (.func (.yield g0) #[] #[]) := ⟨g0, hlp, rfl⟩
    have hargs := Rs.app (Rs.app (Rs.mono hstep.le _ _ hx) (Rs.cons hyv Rs.nil)) (Rs.mono hstep.le _ _ hy)
    have hcall := hc X _ w1 _ hrel (by rw [List.length_append]; omega) hargs
    have hnone : fn.body.isNone = false := by cases q : fn.body <;> simp [q] at hbody ⊢
    have e2 : vx.toArray ++ #[Value.func (.yield g0) #[] #[]] ++ vy.toArray = (vx ++ [Value.func (.yield g0) #[] #[]] ++ vy).toArray := by
      apply Array.ext'
      simp
    refine ⟨g0, mark, w1, ⟨.fn (.func g) vy.toArray, vx.toArray ++ #[Value.func (.yield g0) #[] #[]]⟩, w1, g, (vx ++ [Value.func (.yield g0) #[] #[]] ++ vy).toArray, w1, hent, ?_, fun f' _ => fen_fn l f', ?_, fun hd => (by rw [fen_depth] at hd; cases hd), ?_⟩
    · simp only [resolve, rangeCall, e1, Deferred.ofValue, Sem.run_pure]
      simp [Act.eval]
    · simp only [invoke, callFunc, Sem.run_bind, run_program, Result.andThen_ok, hfn, hE.names g fn hfn, Bool.false_eq_true, if_false, hnone, e2, Sem.run_pure]
    refine (fen_callsIn hcall).mono fun en w3 ⟨v, ρ3, hen, hr3, _, hs3⟩ => ?_
    subst hen
    have hid3 := hs3.lp hlp
    obtain ⟨L3, u1, u2, u3, u4, u5, u6, u7, r4, s4⟩ := loop_put (ro := ro) hr3 hid3 hro he .exhausted p
    have hjump := run_endLoop (P := E.P) u1 (by rw [u6]; exact hnb)
    rw [u7] at hjump
    refine rangePost_of (Q := Post ro N X ρ st.σ w e ⟨st.tm, σ1.set st.σ.length (.loop g' tm' ps' as' bd' .exhausted p)⟩) hjump ?_
    refine hpost (Post ro N X ρ st.σ w e ⟨st.tm, σ1.set st.σ.length (.loop g' tm' ps' as' bd' .exhausted p)⟩) { a with defers := mark ++ a.defers } _ l n ⟨rfl, ρ3, r4, ?_, (hstep.trans hs3).trans s4, Dfs.step s4 (Dfs.step hs3 hmark)⟩
    exact Rs.mono ((hstep.trans hs3).trans s4).le _ _ ha
  split at h1
  · cases h1
  · rename_i hnb
    split at h1
    · exact ⟨_, _, h1, key .normal (fun q => hnb q) fun Q a' w' l n q => q, hpre _⟩
    · exact ⟨_, _, h1, key .ret (fun q => hnb q) fun Q a' w' l n q => wpIn_ret q, hpre _⟩
    · exact ⟨_, _, h1, key (.exit _) (fun q => hnb q) fun Q a' w' l n q => wpIn_exit q, hpre _⟩
    · cases h1

theorem codeD_ok {E : Env} (hE : EnvOk E) : ∀ (c : Code) (ro : Nat) (rnd : Option Nat) (bid : Nat) (st : St) (k : Exit → St → Option Res) (r : Res), ro ≤ st.σ.length → codeD E ro rnd c bid st k = some r →
    ∃ e st', k e st' = some r ∧ CodeOk E.P ro rnd c st e st' ∧ Pre ro st.σ st'.σ
  | .skip, ro, rnd, bid, st, k, r, hro, h => ⟨.normal, st, h, fun X ρ w a l n N hr hro ha hrn hN hd => wpIn_skip ⟨rfl, ρ, hr, ha, Step.refl _ _ _ _ _, hd⟩, Pre.refl _ _⟩
  | .label i, ro, rnd, bid, st, k, r, hro, h => ⟨.normal, st, h, fun X ρ w a l n N hr hro ha hrn hN hd => wpIn_label ⟨rfl, ρ, hr, ha, Step.refl _ _ _ _ _, hd⟩, Pre.refl _ _⟩
  | .exit i, ro, rnd, bid, st, k, r, hro, h => ⟨.exit i, st, h, fun X ρ w a l n N hr hro ha hrn hN hd => wpIn_exit ⟨rfl, ρ, hr, ha, Step.refl _ _ _ _ _, hd⟩, Pre.refl _ _⟩
  | .ret, ro, rnd, bid, st, k, r, hro, h => ⟨.ret, st, h, fun X ρ w a l n N hr hro ha hrn hN hd => wpIn_ret ⟨rfl, ρ, hr, ha, Step.refl _ _ _ _ _, hd⟩, Pre.refl _ _⟩
  | .goto i, ro, rnd, bid, st, k, r, hro, h => by cases h
  | .refuse s, ro, rnd, bid, st, k, r, hro, h => by cases h
  | .rangeFunc f ps a c, ro, rnd, bid, st, k, r, hro, h => rangeD_ok hE hro h
  | .region id ops dr, ro, rnd, bid, st, k, r, hro, h => by
    unfold codeD at h
    cases dr with
    | true =>
      simp only [if_true] at h
      split at h
      · rename_i hc
        obtain ⟨st', h1, h2, h3⟩ := drawn_ok (rnd := rnd) (id := id) hE hro hc h
        exact ⟨_, st', h1, h2, h3⟩
      · cases h
    | false =>
      simp only [Bool.false_eq_true, if_false] at h
      split at h
      · rename_i hns
        obtain ⟨st', h1, h2, h3⟩ := regionD_ok hE (ops := ops.toList) ops.toList st _ r (noSel_ok hns) hro h
        refine ⟨_, st', h1, fun X ρ w a l n N hr hro ha hrn hN hd => ?_, h2⟩
        refine wpIn_region_list ?_
        have := h3 X ρ w a l n N (Post ro N X ρ st.σ w .normal st') hr hro ha hd fun a' ρ' w' q1 q2 q3 q4 => ⟨rfl, ρ', q1, q2, q3, q4⟩
        rw [Array.toArray_toList] at this
        exact this
      · cases h
  | .seq a b, ro, rnd, bid, st, k, r, hro, h => by
    unfold codeD at h
    obtain ⟨e1, st1, h1, hc1, hp1⟩ := codeD_ok hE a ro rnd bid st _ r hro h
    have out : e1 ≠ .normal → k e1 st1 = some r → ∃ e st', k e st' = some r ∧ CodeOk E.P ro rnd (.seq a b) st e st' ∧ Pre ro st.σ st'.σ := fun hne hk =>
      ⟨e1, st1, hk, fun X ρ w act l n N hr hro ha hrn hN hd => wpIn_seq (wpIn_mono (hc1 X ρ w act l n N hr hro ha hrn hN hd) (by
        rintro e2 a' w' ⟨rfl, q⟩
        cases e2 <;> first | exact (hne rfl).elim | exact ⟨rfl, q⟩)), hp1⟩
    cases e1 with
    | normal =>
      obtain ⟨e2, st2, h2, hc2, hp2⟩ := codeD_ok hE b ro rnd bid st1 _ r (Nat.le_trans hro hp1.2.length) h1
      refine ⟨e2, st2, h2, fun X ρ w act l n N hr hro ha hrn hN hd => wpIn_seq (wpIn_mono (hc1 X ρ w act l n N hr hro ha hrn hN hd) ?_), hp1.trans hp2⟩
      rintro e a' w' ⟨rfl, ρ', q1, q2, q3, q4⟩
      refine wpIn_mono (hc2 X ρ' w' a' l n N q1 (q3.ro_le hro) q2 (hrn.mono q3.le) (Nat.le_trans hN q3.size) q4) ?_
      rintro e a2 w2 ⟨rfl, ρ2, u1, u2, u3, u4⟩
      exact ⟨rfl, ρ2, u1, u2, q3.trans u3, u4⟩
    | ret => exact out (by simp) h1
    | exit i => exact out (by simp) h1
    | goto t => exact out (by simp) h1
    | panic ch => exact out (by simp) h1
    | outgrown => exact out (by simp) h1
  | .cond c a b, ro, rnd, bid, st, k, r, hro, h => by
    unfold codeD at h
    have go : ∀ (q : Bool), (∀ X ρ w (act : Act), Rs (sit X ρ st.σ w) st.tm act.tmps.toList → act.eval c = .bool q) → codeD E ro rnd (if q then a else b) bid st k = some r → ∃ e st', k e st' = some r ∧ CodeOk E.P ro rnd (.cond c a b) st e st' ∧ Pre ro st.σ st'.σ := fun q hq h => by
      cases q with
      | true =>
        obtain ⟨e, st', h1, h2, h3⟩ := codeD_ok hE a ro rnd bid st _ r hro h
        exact ⟨e, st', h1, fun X ρ w act l n N hr hro ha hrn hN hd => wpIn_cond_true (hq X ρ w act ha) (h2 X ρ w act l n N hr hro ha hrn hN hd), h3⟩
      | false =>
        obtain ⟨e, st', h1, h2, h3⟩ := codeD_ok hE b ro rnd bid st _ r hro h
        exact ⟨e, st', h1, fun X ρ w act l n N hr hro ha hrn hN hd => wpIn_cond_false (hq X ρ w act ha) (h2 X ρ w act l n N hr hro ha hrn hN hd), h3⟩
    split at h
    · rename_i t
      split at h
      · rename_i q hq
        refine go q (fun X ρ w act ha => ?_) ?_
        · have := ev_ok (P := E.P) ha 0 (.tmp t)
          rw [show ev E.P 0 st.tm (.tmp t) = _ from hq] at this
          exact this
        · cases q with
          | true => simp only [cond_true, set_id hq] at h; exact h
          | false => simp only [cond_false, set_id hq] at h; exact h
      · cases h
    · rename_i q
      refine go q (fun X ρ w act ha => rfl) ?_
      cases q <;> exact h
    · cases h
  | .block id c, ro, rnd, bid, st, k, r, hro, h => by
    unfold codeD at h
    obtain ⟨e1, st1, h1, hc1, hp1⟩ := codeD_ok hE c ro rnd id st _ r hro h
    have fin : ∀ e', (∀ (Q : Exit → Act → World → Prop) a w, Q e' a w → Exit.inBlock id Q e1 a w) → k e' st1 = some r → ∃ e st', k e st' = some r ∧ CodeOk E.P ro rnd (.block id c) st e st' ∧ Pre ro st.σ st'.σ := fun e' hx hk =>
      ⟨e', st1, hk, fun X ρ w act l n N hr hro ha hrn hN hd => wpIn_block (wpIn_mono (hc1 X ρ w act l n N hr hro ha hrn hN hd) (by
        rintro e2 a' w' ⟨rfl, q⟩
        exact hx _ _ _ ⟨rfl, q⟩)), hp1⟩
    cases e1 with
    | exit i =>
      by_cases q : i = id
      · subst q
        simp only [if_true] at h1
        exact fin .normal (fun Q a w q => by simpa [Exit.inBlock] using q) h1
      · simp only [if_neg q] at h1
        exact fin (.exit i) (fun Q a w q2 => by simpa [Exit.inBlock, q] using q2) h1
    | normal => exact fin .normal (fun Q a w q => q) h1
    | ret => exact fin .ret (fun Q a w q => q) h1
    | goto t => exact fin (.goto t) (fun Q a w q => q) h1
    | panic ch => exact fin (.panic ch) (fun Q a w q => q) h1
    | outgrown => exact fin .outgrown (fun Q a w q => q) h1
  | .scope c, ro, rnd, bid, st, k, r, hro, h => by
    unfold codeD at h
    obtain ⟨e1, st1, h1, hc1, hp1⟩ := codeD_ok hE c ro rnd bid st _ r hro h
    have fin : (∀ t, e1 ≠ .goto t) → k e1 st1 = some r → ∃ e st', k e st' = some r ∧ CodeOk E.P ro rnd (.scope c) st e st' ∧ Pre ro st.σ st'.σ := fun hx hk =>
      ⟨e1, st1, hk, fun X ρ w act l n N hr hro ha hrn hN hd => wpIn_scope (wpIn_mono (hc1 X ρ w act l n N hr hro ha hrn hN hd) (by
        rintro e2 a' w' ⟨rfl, q⟩
        cases e2 <;> first | exact (hx _ rfl).elim | exact ⟨rfl, q⟩)), hp1⟩
    cases e1 with
    | goto t => cases h1
    | exit i => exact fin (by simp) h1
    | normal => exact fin (by simp) h1
    | ret => exact fin (by simp) h1
    | panic ch => exact fin (by simp) h1
    | outgrown => exact fin (by simp) h1
  | .loop c, ro, rnd, bid, st, k, r, hro, h => by
    unfold codeD at h
    dsimp only at h
    have hmk : (st.mask (E.keep bid)).σ = st.σ := St.mask_σ _ _
    obtain ⟨new, hnew⟩ := ownL_app (st.mask (E.keep bid)).tm (st.mask (E.keep bid)).σ
    have hown : (st.mask (E.keep bid)).own.σ = st.σ ++ new := by
      rw [← hmk]
      exact hnew
    have hpo : Pre ro st.σ (st.mask (E.keep bid)).own.σ := by rw [hown]; exact Pre.app hro new
    have hro1 := Nat.le_trans hro hpo.2.length
    obtain ⟨e, st', h1, h2, h3⟩ := loopD_ok (E := E) (rnd := rnd) (c := c) (fun st k r hro h => codeD_ok hE c ro rnd bid st k r hro h) hro1 E.fuel _ k r (Pre.refl _ _) h
    refine ⟨e, st', h1, fun X ρ w act l n N hr hro ha hrn hN hd => ?_, hpo.trans h2⟩
    obtain ⟨q1, q2, q3⟩ := St.own_ok (ro := ro) (st := st.mask (E.keep bid)) (vs := act.tmps.toList) (by rw [hmk]; exact hr) (by rw [hmk]; exact hro) (by rw [hmk]; exact St.mask_ok _ ha)
    rw [hmk] at q2
    refine wpIn_loop_rounds E.fuel (Code.roundsIn_mono (h3 X ρ w ρ w act l n N (Step.refl _ _ _ _ _) q1 q3 (hrn.mono q2.le) hN (Dfs.step q2 hd)) ?_)
    rintro e2 a' w' ⟨rfl, ρ', u1, u2, u3, u4⟩
    exact ⟨rfl, ρ', u1, u2, q2.trans u3, u4⟩

end Go.Am
namespace Go.Am
open Go

/-! ### The marks are come to -/
theorem mark_ok {ro : Nat} {X : Pl} {ρ0 ρ : Rn} {σ0 σ : List Ent} {w0 w : World} {b : Nat} (hr : Rel X ρ σ w) (hs : Step ro X ρ0 σ0 w0 ρ σ w) (hb : w0.heap.size ≤ b) (hn : ∀ i, ρ i ≠ some b) (hw : w.heap[b]? = some (.deferred (some []))) :
    Rel X ρ σ (w.putObj b (.deferred none)) ∧ Step ro X ρ0 σ0 w0 ρ σ (w.putObj b (.deferred none)) ∧ Le (sit X ρ σ w) (sit X ρ σ (w.putObj b (.deferred none))) := by
  have hoth : ∀ b', b' ≠ b → (w.putObj b (.deferred none)).heap[b']? = w.heap[b']? := fun b' q => World.putObj_heap_other q
  have hle : Le (sit X ρ σ w) (sit X ρ σ (w.putObj b (.deferred none))) := by
    refine ⟨fun a v ⟨h1, h2, h3, h4⟩ => ⟨h1, ?_, h3, h4⟩, fun i g h => h, fun i g r m h => h, fun i g h => h, fun t r n v ⟨r', m, h1, h2, h3⟩ => ⟨r', m, h1, h2, fun e => ?_⟩⟩
    · unfold World.cell? at h2 ⊢
      by_cases q : a.block = b
      · rw [q, hw] at h2
        cases h2
      · rw [hoth _ q]
        exact h2
    · rcases h3 e with h4 | ⟨g, c, arr, el, h5, h6, h7, h8⟩
      · exact .inl h4
      · exact .inr ⟨g, c, arr, el, h5, h6, by rw [hoth g (fun q => hn t (q ▸ h5))]; exact h7, h8⟩
  refine ⟨⟨hr.inj, fun i g hi => ?_, fun b' o hb' => hr.top b' o (by rw [World.putObj_size] at hb'; exact hb'), hr.fr⟩, ⟨hs.os, hs.tape, hs.output, by rw [World.putObj_size]; exact hs.size, fun b' hb' hn' => ?_, hs.img, hs.keep, hs.le.trans hle⟩, hle⟩
  · obtain ⟨e, h1, h2⟩ := hr.ent i g hi
    exact ⟨e, h1, (h2.mono hle).world (hoth g fun q => hn i (q ▸ hi))⟩
  · rw [hoth b' (by omega)]
    exact hs.old b' hb' hn'
theorem Dfs.mark {N : Nat} {ρ : Rn} {w : World} {d : Deferred} {b : Nat} (hd : d = { target := .collected b, args := #[] }) : ∀ {l : List Deferred}, (∀ e ∈ l, e ≠ d) → Dfs N ρ w l → Dfs N ρ (w.putObj b (.deferred none)) l
  | [], _, _ => trivial
  | d' :: l, hne, ⟨⟨b', h1, h2, h3, h4, h5⟩, h6⟩ => by
    refine ⟨⟨b', h1, h2, h3, ?_, h5⟩, Dfs.mark hd (fun e he => hne e (List.mem_cons_of_mem _ he)) h6⟩
    rw [World.putObj_heap_other fun q => hne d' (List.mem_cons_self ..) (by rw [h1, hd, q])]
    exact h4

theorem leaves_ok {P : Program} {fn : Func} {tmps : Array Value} {R' : Ending → World → Prop} {ro : Nat} {X : Pl} {ρ0 ρ : Rn} {σ0 σ : List Ent} {w0 : World} :
    ∀ (l : List Deferred) (w : World), Rel X ρ σ w → Step ro X ρ0 σ0 w0 ρ σ w → Dfs w0.heap.size ρ w l → (∀ w', Rel X ρ σ w' → Step ro X ρ0 σ0 w0 ρ σ w' → Le (sit X ρ σ w) (sit X ρ σ w') → ∃ v, (results fn tmps).run P w' = .ok v w' ∧ R' (.returned v) w') →
      LeavesInM .wide 0 P fn tmps R' l .returning w
  | [], w, hr, hs, _, hk => hk w hr hs (Le.refl _)
  | d :: l, w, hr, hs, ⟨⟨b, h1, h2, h3, h4, h5⟩, h6⟩, hk => by
    obtain ⟨q1, q2, q3⟩ := mark_ok hr hs h2 h3 h4
    refine ⟨by simp, .inl ⟨b, w.putObj b (.deferred none), by rw [h1], run_takeDeferred h4, leaves_ok l _ q1 q2 (h6.mark h1 h5) fun w' u1 u2 u3 => hk w' u1 u2 (q3.trans u3)⟩⟩

/-! ### Results -/
def rvF (tmps : Array Value) (r : ResultVar) : Sem Value := match r with
  | .tmp t => pure (tmps.getD t undef)
  | .cell a t => do loadVar t (← asAddr (tmps.getD a undef))
theorem results_rv (fn : Func) (tmps : Array Value) : results fn tmps = (fn.results.mapM (rvF tmps) >>= fun vs => pure (if h : vs.size = 1 then vs[0] else .tuple vs)) := rfl
theorem results_ok {P : Program} {X : Pl} {ρ : Rn} {st : St} {w : World} {tmps : Array Value} (hr : Rel X ρ st.σ w) (ha : Rs (sit X ρ st.σ w) st.tm tmps.toList) : ∀ (l : List ResultVar) (ds : List D), resultsD P st l = some ds →
    ∃ vs, (l.mapM (rvF tmps)).run P w = .ok vs w ∧ Rs (sit X ρ st.σ w) ds vs
  | [], ds, h => by
    simp only [resultsD, Option.some.injEq] at h
    subst h
    exact ⟨[], by simp, rfl⟩
  | .tmp t :: l, ds, h => by
    simp only [resultsD, Option.map_eq_some_iff] at h
    obtain ⟨ds', h1, rfl⟩ := h
    obtain ⟨vs, h2, h3⟩ := results_ok hr ha l ds' h1
    exact ⟨tmps.getD t undef :: vs, by simp only [List.mapM_cons, Sem.run_bind, rvF, Sem.run_pure, Result.andThen_ok]; rw [h2]; rfl, Rs.cons (ev_ok (a := ⟨tmps, []⟩) (P := P) ha 0 (.tmp t)) h3⟩
  | .cell a t :: l, ds, h => by
    simp only [resultsD, Option.bind_eq_some_iff, Option.map_eq_some_iff] at h
    obtain ⟨d, h1, ds', h2, rfl⟩ := h
    obtain ⟨vs, h3, h4⟩ := results_ok hr ha l ds' h2
    obtain ⟨ad, u, h5, h6, h7⟩ := loadD_ok (P := P) hr (ev_ok (a := ⟨tmps, []⟩) (P := P) ha 0 (.tmp a)) h1
    have h5' : tmps.getD a undef = .pointer (some ad) := h5
    exact ⟨u :: vs, by
      have ha' : (asAddr (tmps.getD a undef)).run P w = .ok ad w := by rw [h5']; rfl
      simp only [List.mapM_cons, Sem.run_bind, rvF, ha', Result.andThen_ok, h6]
      rw [h3]
      rfl, Rs.cons h7 h4⟩

theorem mapM_arr {α : Type} (f : α → Sem Value) (xs : Array α) {P : Program} {w : World} {vs : List Value} (h : (xs.toList.mapM f).run P w = .ok vs w) : (xs.mapM f).run P w = .ok vs.toArray w := by
  rw [← Array.toArray_toList (xs := xs), List.mapM_toArray, map_eq_pure_bind, Sem.run_bind, h]
  rfl

def retD (ds : List D) : D := match ds with | [d] => d | ds => .tup ds
theorem run_results {P : Program} {X : Pl} {ρ : Rn} {st : St} {w : World} {fn : Func} {tmps : Array Value} (hr : Rel X ρ st.σ w) (ha : Rs (sit X ρ st.σ w) st.tm tmps.toList) {ds : List D} (h : resultsD P st fn.results.toList = some ds) :
    ∃ v, (results fn tmps).run P w = .ok v w ∧ R (sit X ρ st.σ w) (retD ds) v := by
  obtain ⟨vs, h1, h2⟩ := results_ok hr ha _ _ h
  have h3 := mapM_arr _ fn.results h1
  refine ⟨if h : vs.toArray.size = 1 then vs.toArray[0] else .tuple vs.toArray, ?_, ?_⟩
  · rw [results_rv, Sem.run_bind]
    have e : (fn.results.mapM (rvF tmps)).run P w = .ok vs.toArray w := h3
    rw [e]
    rfl
  · match ds, h2 with
    | [], h2 => rw [show vs = [] from h2]; exact ⟨[], rfl, rfl⟩
    | [d], ⟨v, rest, e, q1, q2⟩ => rw [e, show rest = [] from q2]; exact q1
    | d :: d' :: l, ⟨v, rest, e, q1, ⟨v', rest', e', q2, q3⟩⟩ =>
      rw [e, e']
      exact ⟨_, rfl, v, _, rfl, q1, v', _, rfl, q2, q3⟩

/-! ### What was made within is given up -/
mutual
theorem R.freeze {X : Pl} {ρ : Rn} {σ : List Ent} {w : World} {n : Nat} (hr : Rel X ρ σ w) : ∀ (d : D) (v : Value), R (sit X ρ σ w) d v → (d.freeze σ n).lt n = true → R (sit X (ρ.cut n) (σ.take n) w) (d.freeze σ n) v
  | .any, _, h, hl => R.monoN (leN_cut X ρ σ w n) _ _ hl h
  | .int _ _, _, h, hl => R.monoN (leN_cut X ρ σ w n) _ _ hl h
  | .bool _, _, h, hl => R.monoN (leN_cut X ρ σ w n) _ _ hl h
  | .str _, _, h, hl => R.monoN (leN_cut X ρ σ w n) _ _ hl h
  | .flt _ _, _, h, hl => R.monoN (leN_cut X ρ σ w n) _ _ hl h
  | .sl r xs .no, _, h, hl => R.monoN (leN_cut X ρ σ w n) _ _ hl h
  | .sl r xs .fresh, _, h, hl => R.monoN (leN_cut X ρ σ w n) _ _ hl h
  | .sl r xs (.own t), v, h, hl => by
    unfold D.freeze at hl ⊢
    by_cases q : t < n
    · rw [if_pos q] at hl ⊢
      exact R.monoN (leN_cut X ρ σ w n) _ _ hl h
    · rw [if_neg q] at hl ⊢
      exact R.monoN (leN_cut X ρ σ w n) (.sl r xs .no) _ hl ⟨h.1, trivial⟩
  | .ref id off len, v, h, hl => by
    unfold D.freeze at hl ⊢
    by_cases q : id < n
    · rw [if_pos q] at hl ⊢
      exact R.monoN (leN_cut X ρ σ w n) _ _ hl h
    · rw [if_neg q] at hl ⊢
      split at hl
      · rename_i r xs he
        rcases h with ⟨g, c, ⟨_, l, h1⟩, _⟩ | ⟨g, r2, m, c, ⟨hid, zs, h2, h3⟩, h4, rfl, h5⟩
        · rw [he] at h1; cases h1
        rw [he] at h2
        simp only [Option.some.injEq, Ent.buf.injEq] at h2
        obtain ⟨rfl, h2⟩ := h2
        cases h2
        obtain ⟨e2, h6, h7⟩ := hr.ent id g hid
        rw [he] at h6
        cases h6
        obtain ⟨arr, el, hg, hrows⟩ := h7
        have hlen : ((xs.drop off).take len).length = len := by simp; omega
        have hrr := rowsR_take len (rowsR_drop off hrows)
        have hcut := leN_cut X ρ σ w n
        have := slG_mk (ad := ⟨g, off * r.size, none⟩) (c := c) (hrr.mono hcut.rd) (by rw [hlen]; exact h5) (fun j u hj => by
          rw [add_at]
          refine ⟨rfl, ?_, hr.fr id g hid _, fun i hi => ?_⟩
          · rw [List.getElem?_take] at hj
            split at hj
            · simp only [World.cell?, hg, Option.isSome_none, Bool.false_eq_true, if_false]
              simpa using hj
            · cases hj
          · unfold Rn.cut at hi
            split at hi
            · have := hr.inj i id g hi hid
              omega
            · cases hi)
        rw [hlen] at this
        exact ⟨this, trivial⟩
      · exact (q (of_decide_eq_true hl)).elim
  | .ptr id off, v, h, hl => by
    unfold D.freeze at hl ⊢
    by_cases q : id < n
    · rw [if_pos q] at hl ⊢
      exact R.monoN (leN_cut X ρ σ w n) _ _ hl h
    · rw [if_neg q] at hl ⊢
      split at hl
      · rename_i l he
        split at hl
        · rename_i rx hx
          obtain ⟨g, ⟨hid, l2, h2⟩, rfl⟩ := h
          obtain ⟨e2, h6, h7⟩ := hr.ent id g hid
          rw [he] at h6
          cases h6
          obtain ⟨arr, el, hg, hrs⟩ := h7
          have hrow := row_R hrs hx
          have hrow' : Row.R (sit X (ρ.cut n) (σ.take n) w).rd rx.1 arr.toList rx.2 := Row.R_mono (leN_cut X ρ σ w n).rd _ _ _ hrow
          refine ⟨⟨g, 0, none⟩, arr.toList, by rw [add_at, Nat.zero_add], Row.R_size _ _ _ hrow, fun i u hu => ?_, hrow'⟩
          rw [add_at]
          refine ⟨rfl, ?_, hr.fr id g hid _, fun j hj => ?_⟩
          · simp only [World.cell?, hg, Option.isSome_none, Bool.false_eq_true, if_false]
            simpa using hu
          · unfold Rn.cut at hj
            split at hj
            · have := hr.inj j id g hj hid
              omega
            · cases hj
        · exact (q (of_decide_eq_true hl)).elim
      · exact (q (of_decide_eq_true hl)).elim
  | .bp id i j, _, h, hl => R.monoN (leN_cut X ρ σ w n) _ _ hl h
  | .ep r x j, _, h, hl => R.monoN (leN_cut X ρ σ w n) _ _ hl h
  | .nilp, _, h, hl => R.monoN (leN_cut X ρ σ w n) _ _ hl h
  | .fn f a b, _, h, hl => R.monoN (leN_cut X ρ σ w n) _ _ hl h
  | .yld id, _, h, hl => R.monoN (leN_cut X ρ σ w n) _ _ hl h
  | .nilf, _, h, hl => R.monoN (leN_cut X ρ σ w n) _ _ hl h
  | .agg l, _, ⟨x, e, h⟩, hl => ⟨x, e, Rs.freeze hr l x h hl⟩
  | .tup l, _, ⟨x, e, h⟩, hl => ⟨x, e, Rs.freeze hr l x h hl⟩
theorem Rs.freeze {X : Pl} {ρ : Rn} {σ : List Ent} {w : World} {n : Nat} (hr : Rel X ρ σ w) : ∀ (l : List D) (vs : List Value), Rs (sit X ρ σ w) l vs → D.lts n (D.freezes σ n l) = true → Rs (sit X (ρ.cut n) (σ.take n) w) (D.freezes σ n l) vs
  | [], _, h, _ => h
  | d :: l, _, ⟨v, rest, e, p, q⟩, hl => by
    have hl' : ((D.freeze σ n d).lt n && D.lts n (D.freezes σ n l)) = true := hl
    rw [Bool.and_eq_true] at hl'
    exact ⟨v, rest, e, R.freeze hr d v p hl'.1, Rs.freeze hr l rest q hl'.2⟩
end

theorem finD_ok {ro : Nat} {X : Pl} {ρ0 ρ : Rn} {σ0 σ : List Ent} {w0 w : World} {ds : List D} {k : Kont} {r : Res} (h : finD σ0.length σ ds k = some r) (hro : ro ≤ σ0.length) :
    ∃ d σ', k d σ' = some r ∧ (Pre ro σ0 σ → Pre ro σ0 σ') ∧ ∀ X ρ0 w0 ρ w v, Rel X ρ σ w → Step ro X ρ0 σ0 w0 ρ σ w → R (sit X ρ σ w) (retD ds) v → ∃ ρ', Rel X ρ' σ' w ∧ R (sit X ρ' σ' w) d v ∧ Step ro X ρ0 σ0 w0 ρ' σ' w := by
  unfold finD at h
  change (if ((retD ds).freeze σ σ0.length).lt σ0.length && Ent.lts σ0.length (σ.take σ0.length) then k ((retD ds).freeze σ σ0.length) (σ.take σ0.length) else k (retD ds) σ) = some r at h
  split at h
  · rename_i hc
    rw [Bool.and_eq_true] at hc
    exact ⟨_, _, h, fun hp => hp.take (Nat.le_refl _) hro, fun X ρ0 w0 ρ w v hr hs hv => ⟨ρ.cut σ0.length, rel_cut hr hc.2, R.freeze hr _ _ hv hc.1, step_cut hs (Nat.le_refl _) hro⟩⟩
  · exact ⟨_, _, h, fun hp => hp, fun X ρ0 w0 ρ w v hr hs hv => ⟨ρ, hr, hv, hs⟩⟩

theorem bodyD_ok {E : Env} (hE : EnvOk E) {ro : Nat} {f : FuncId} {fn : Func} {c : Code} (hf : E.P.funcs[f]? = some fn) (hb : fn.body = some c) {args : List D} {σ : List Ent} {k : Kont} {r : Res} (hro : ro ≤ σ.length) (h : bodyD E ro fn c args σ k = some r) :
    ∃ d σ', k d σ' = some r ∧ CallOk E.P ro f args σ d σ' ∧ Pre ro σ σ' := by
  unfold bodyD at h
  obtain ⟨e, st1, h1, hc, hp⟩ := codeD_ok hE c ro none 0 _ _ r hro h
  have fin : (e = .normal ∨ e = .ret) → (match resultsD E.P st1 fn.results.toList with
      | some ds => finD σ.length st1.σ ds k
      | none => none) = some r → ∃ d σ', k d σ' = some r ∧ CallOk E.P ro f args σ d σ' ∧ Pre ro σ σ' := fun he h1 => by
    split at h1
    case h_2 => cases h1
    rename_i ds hds
    obtain ⟨d, σ', h2, h3, h4⟩ := finD_ok (ro := ro) (X := fun _ _ => True) (ρ0 := noRn) (ρ := noRn) (w0 := (default : World)) (w := (default : World)) h1 hro
    refine ⟨d, σ', h2, fun X ρ w vs hr hro hv => ?_, h3 hp⟩
    refine (callsIn_wide (n := 0)).1 (callsIn_of_wp_marks hf hb trivial (wpIn_mono (hc X ρ w _ none 0 w.heap.size hr hro ?_ trivial (Nat.le_refl _) trivial) ?_))
    · show Rs (sit X ρ σ w) (args ++ List.replicate (fn.ntmps - args.length) .any) (vs.toArray ++ Array.replicate (fn.ntmps - vs.toArray.size) undef).toList
      rw [Array.toList_append, Array.toList_replicate, List.size_toArray, Rs.length hv]
      exact Rs.app hv (Rs.rep (d := .any) trivial _)
    · rintro e2 a' w' ⟨rfl, ρ', q1, q2, q3, q4⟩
      have : LeavesInM .wide 0 E.P fn a'.tmps (fun e w' => ∃ v ρ', e = .returned v ∧ Rel X ρ' σ' w' ∧ R (sit X ρ' σ' w') d v ∧ Step ro X ρ σ w ρ' σ' w') a'.defers .returning w' := by
        refine leaves_ok a'.defers w' q1 q3 q4 fun w2 u1 u2 u3 => ?_
        obtain ⟨v, h5, h6⟩ := run_results (fn := fn) u1 (Rs.mono u3 _ _ q2) hds
        obtain ⟨ρ2, h7, h8, h9⟩ := h4 X ρ w ρ' w2 v u1 u2 h6
        exact ⟨v, h5, v, ρ2, rfl, h7, h8, h9⟩
      rcases he with rfl | rfl
      · exact this
      · exact this
  cases e with
  | normal => exact fin (.inl rfl) h1
  | ret => exact fin (.inr rfl) h1
  | exit i => cases h1
  | goto t => cases h1
  | panic ch => cases h1
  | outgrown => cases h1

/-! ### The whole -/
structure CfgOk (C : Cfg) : Prop where
  eq : EqOk C.P C.eqOk
  names : NamesOk C.P
  mixed : C.P.follows .mixedOrders = true
  spec : ∀ f sp, C.spec f = some sp → SpecOk C.P f sp
  tok : ∀ f sp, C.tok f = some sp → TokOk C.P f sp := by exact fun _ _ h => nomatch h

theorem both_ok {C : Cfg} (hC : CfgOk C) : ∀ m, CallSound C.P (C.both m).1 ∧ RunSound C.P (C.both m).2
  | 0 => ⟨fun ro f args σ k r h _ => (by cases h), fun g ro rnd c st k r h _ => (by cases h)⟩
  | m + 1 => by
    obtain ⟨hc, hr⟩ := both_ok hC m
    have henv : ∀ f fn, EnvOk (C.env m f fn (C.both m).1 (C.both m).2) := fun f fn => ⟨hC.eq, hC.names, hC.mixed, hC.spec, hC.tok, hc, hr⟩
    refine ⟨fun ro f args σ k r h hro => ?_, fun g ro rnd c st k r h hro => ?_⟩
    · simp only [Cfg.both] at h
      split at h
      · rename_i fn hf
        split at h
        · rename_i c hb
          obtain ⟨d, σ', h1, h2, h3⟩ := bodyD_ok (henv f fn) hf hb hro h
          exact ⟨d, σ', h1, h2, h3, fn, hf, by rw [hb]; rfl⟩
        · cases h
      · cases h
    · simp only [Cfg.both] at h
      split at h
      · rename_i fn hf
        have : EnvOk { C.env m g fn (C.both m).1 (C.both m).2 with rets := none } := ⟨hC.eq, hC.names, hC.mixed, hC.spec, hC.tok, hc, hr⟩
        obtain ⟨e, st', h1, h2, h3⟩ := codeD_ok this c ro rnd 0 st k r hro h
        exact ⟨e, st', h1, h2, h3⟩
      · cases h

/-- **A function's answer, by computation.** -/
theorem call_ok {C : Cfg} (hC : CfgOk C) {m : Nat} {f : FuncId} {args : List D} {d : D} {σ' : List Ent} (h : C.call m 0 f args [] (fun d σ => some (d, σ)) = some (d, σ')) {Y : Pl} {w : World} {vs : List Value} (hY : ∀ b o, w.heap.size ≤ b → Y b o) (hv : Rs (rsit Y w) args vs) :
    Calls C.P f vs.toArray w fun e w' => ∃ v ρ', e = .returned v ∧ Rel Y ρ' σ' w' ∧ R (sit Y ρ' σ' w') d v ∧ RowKit.Below w.heap.size w w' := by
  obtain ⟨d1, σ1, h1, h2, _⟩ := (both_ok hC m).1 0 f args [] _ _ h (Nat.zero_le _)
  cases h1
  have hr0 : Rel Y noRn [] w := ⟨fun i j g hi => (by cases hi), fun i g hi => (by cases hi), hY, fun i g hi => (by cases hi)⟩
  refine (h2 Y noRn w vs hr0 (Nat.le_refl _) hv).mono fun e w' ⟨v, ρ', h3, h4, h5, h6⟩ => ⟨v, ρ', h3, h4, h5, ?_⟩
  exact ⟨h6.os, h6.tape, h6.output, h6.size, fun b hb => h6.old b hb fun i _ hi => by cases hi⟩

end Go.Am
namespace Go.Am
open Go

/-! ### Facts at given arguments -/
mutual
def CT.beq : (c : CT) → c.T → c.T → Bool
  | .int _, a, b => decide ((a : Int) = b)
  | .bool, a, b => decide ((a : Bool) = b)
  | .str, a, b => decide ((a : ByteArray) = b)
  | .sl r, a, b => lbeq (Row.beq r) a b
def Row.beq : (r : Row) → r.T → r.T → Bool
  | .one c, a, b => CT.beq c a b
  | .cons c r, a, b => CT.beq c a.1 b.1 && Row.beq r a.2 b.2
def lbeq {α : Type} (f : α → α → Bool) : List α → List α → Bool
  | [], [] => true
  | a :: l, b :: m => f a b && lbeq f l m
  | _, _ => false
end
theorem lbeq_eq {α : Type} {f : α → α → Bool} (h : ∀ a b, f a b = true → a = b) : ∀ l m : List α, lbeq f l m = true → l = m
  | [], [], _ => rfl
  | [], _ :: _, q => by simp [lbeq] at q
  | _ :: _, [], q => by simp [lbeq] at q
  | a :: l, b :: m, q => by
    simp only [lbeq, Bool.and_eq_true] at q
    rw [h a b q.1, lbeq_eq h l m q.2]
mutual
theorem CT.beq_eq : ∀ (c : CT) (a b : c.T), CT.beq c a b = true → a = b
  | .int _, a, b, h => of_decide_eq_true (by simpa only [CT.beq] using h)
  | .bool, a, b, h => of_decide_eq_true (by simpa only [CT.beq] using h)
  | .str, a, b, h => of_decide_eq_true (by simpa only [CT.beq] using h)
  | .sl r, a, b, h => lbeq_eq (Row.beq_eq r) a b (by simpa only [CT.beq] using h)
theorem Row.beq_eq : ∀ (r : Row) (a b : r.T), Row.beq r a b = true → a = b
  | .one c, a, b, h => CT.beq_eq c a b (by simpa only [Row.beq] using h)
  | .cons c r, a, b, h => by
    simp only [Row.beq, Bool.and_eq_true] at h
    exact Prod.ext (CT.beq_eq c _ _ h.1) (Row.beq_eq r _ _ h.2)
end
mutual
def D.beq : D → D → Bool
  | .int k n, .int l m => decide (k = l) && decide (n = m)
  | .bool a, .bool b => decide (a = b)
  | .str a, .str b => decide (a = b)
  | .sl r xs .no, .sl s ys .no => match Row.dec r s with
    | .isTrue h => Row.beq (.one (.sl s)) (Row.cast h xs) ys
    | .isFalse _ => false
  | .nilp, .nilp => true
  | .nilf, .nilf => true
  | .agg l, .agg m => D.beqs l m
  | _, _ => false
def D.beqs : List D → List D → Bool
  | [], [] => true
  | d :: l, e :: m => D.beq d e && D.beqs l m
  | _, _ => false
end
mutual
theorem D.beq_eq : ∀ (d e : D), D.beq d e = true → d = e
  | .int k n, e, h => by
    cases e <;> simp only [D.beq, Bool.false_eq_true, reduceCtorEq, Bool.and_eq_true, decide_eq_true_eq] at h
    rw [h.1, h.2]
  | .bool a, e, h => by
    cases e <;> simp only [D.beq, Bool.false_eq_true, reduceCtorEq, decide_eq_true_eq] at h
    rw [h]
  | .str a, e, h => by
    cases e <;> simp only [D.beq, Bool.false_eq_true, reduceCtorEq, decide_eq_true_eq] at h
    rw [h]
  | .sl r xs .no, e, h => by
    cases e <;> try (simp only [D.beq, Bool.false_eq_true, reduceCtorEq] at h; done)
    rename_i s ys t
    cases t <;> simp only [D.beq, Bool.false_eq_true, reduceCtorEq] at h
    split at h
    · rename_i hr _
      subst hr
      rw [show xs = ys from Row.beq_eq (.one (.sl r)) xs ys h]
    · cases h
  | .sl r xs .fresh, e, h => by cases e <;> simp only [D.beq, Bool.false_eq_true, reduceCtorEq] at h
  | .sl r xs (.own t), e, h => by cases e <;> simp only [D.beq, Bool.false_eq_true, reduceCtorEq] at h
  | .nilp, e, h => by cases e <;> simp only [D.beq, Bool.false_eq_true, reduceCtorEq] at h; rfl
  | .nilf, e, h => by cases e <;> simp only [D.beq, Bool.false_eq_true, reduceCtorEq] at h; rfl
  | .agg l, e, h => by
    cases e <;> simp only [D.beq, Bool.false_eq_true, reduceCtorEq] at h
    rw [D.beqs_eq l _ h]
  | .any, e, h => by cases e <;> simp only [D.beq, Bool.false_eq_true, reduceCtorEq] at h
  | .flt _ _, e, h => by cases e <;> simp only [D.beq, Bool.false_eq_true, reduceCtorEq] at h
  | .ref _ _ _, e, h => by cases e <;> simp only [D.beq, Bool.false_eq_true, reduceCtorEq] at h
  | .ptr _ _, e, h => by cases e <;> simp only [D.beq, Bool.false_eq_true, reduceCtorEq] at h
  | .bp _ _ _, e, h => by cases e <;> simp only [D.beq, Bool.false_eq_true, reduceCtorEq] at h
  | .ep _ _ _, e, h => by cases e <;> simp only [D.beq, Bool.false_eq_true, reduceCtorEq] at h
  | .fn _ _ _, e, h => by cases e <;> simp only [D.beq, Bool.false_eq_true, reduceCtorEq] at h
  | .yld _, e, h => by cases e <;> simp only [D.beq, Bool.false_eq_true, reduceCtorEq] at h
  | .tup _, e, h => by cases e <;> simp only [D.beq, Bool.false_eq_true, reduceCtorEq] at h
theorem D.beqs_eq : ∀ (l m : List D), D.beqs l m = true → l = m
  | [], m, h => by
    cases m with
    | nil => rfl
    | cons _ _ => simp [D.beqs] at h
  | d :: l, m, h => by
    cases m with
    | nil => simp [D.beqs] at h
    | cons e m =>
      simp only [D.beqs, Bool.and_eq_true] at h
      rw [D.beq_eq d e h.1, D.beqs_eq l m h.2]
end

/-- What is told of a function: its answers at some arguments. -/
def told : List (List D × D) → List D → (D → Option Res) → Option Res
  | [], _, _ => none
  | (a, d) :: l, args, k => if D.beqs args a then k d else told l args k

/-- It answers so, in whatever world, and changes nothing that was there. -/
def Says (P : Program) (f : FuncId) (args : List D) (d : D) : Prop :=
  ∀ (Y : Pl) (w : World) (vs : List Value), (∀ b o, w.heap.size ≤ b → Y b o) → Rs (rsit Y w) args vs → Calls P f vs.toArray w fun e w' => ∃ v, e = .returned v ∧ R (rsit Y w') d v ∧ RowKit.Below w.heap.size w w'
theorem says_of {C : Cfg} (hC : CfgOk C) {m : Nat} {f : FuncId} {args : List D} {d : D} (h : C.call m 0 f args [] (fun d σ => some (d, σ)) = some (d, [])) : Says C.P f args d := fun Y w vs hY hv => by
  refine (call_ok hC h hY hv).mono fun e w' ⟨v, ρ', h1, h2, h3, h4⟩ => ⟨v, h1, ?_, h4⟩
  have : ρ' = noRn := by
    funext i
    exact h2.none (Nat.zero_le _)
  rw [this] at h3
  exact h3
theorem told_ok {P : Program} {f : FuncId} {l : List (List D × D)} (hb : ∃ fn, P.funcs[f]? = some fn ∧ fn.body.isSome = true) (h : ∀ x ∈ l, Says P f x.1 x.2) : SpecOk P f (told l) := by
  refine ⟨hb, fun args k r hk => ?_⟩
  induction l with
  | nil => cases hk
  | cons x l ih =>
    obtain ⟨a, d⟩ := x
    unfold told at hk
    split at hk
    · rename_i q
      rw [D.beqs_eq _ _ q]
      exact ⟨d, hk, h (a, d) (List.mem_cons_self ..)⟩
    · exact ih (fun y hy => h y (List.mem_cons_of_mem _ hy)) hk

end Go.Am
namespace Go.Am
open Go

/-! ### A loop within a function, by the way to it -/
/-- The loop's body, its block, and what comes behind the loop; ms: the loops around it, their blocks' number and how many rounds they have left. -/
def loopAt (E : Env) (ro : Nat) (rnd : Option Nat) : Code → Nat → List Bool → List (Nat × Nat) → (Exit → St → Option Res) → Option (Code × Nat × (Exit → St → Option Res))
  | .seq a b, bid, false :: p, ms, k => loopAt E ro rnd a bid p ms fun e st' => match e with
    | .normal => codeD E ro rnd b bid st' k
    | e => k e st'
  | .seq _ b, bid, true :: p, ms, k => loopAt E ro rnd b bid p ms k
  | .block id c, _, p, ms, k => loopAt E ro rnd c id p ms fun e st' => match e with
    | .exit i => k (if i = id then .normal else .exit i) st'
    | e => k e st'
  | .cond _ a b, bid, x :: p, ms, k => if x then loopAt E ro rnd b bid p ms k else loopAt E ro rnd a bid p ms k
  | .scope c, bid, p, ms, k => loopAt E ro rnd c bid p ms fun e st' => match e with
    | .goto _ => none
    | e => k e st'
  | .loop c, bid, p, ms, k => match p, ms with
    | [], _ => some (c, bid, k)
    | _ :: p, (n, m) :: ms => loopAt E ro rnd c bid p ms fun e st' => match e with
      | .normal => loopD E (fun st k => codeD E ro rnd c bid st k) bid n m ((st'.mask (E.keep bid)).trunc n) k
      | .ret => k .ret (st'.mask E.rets)
      | e => k e (st'.mask (E.keep bid))
    | _, [] => none
  | _, _, _, _, _ => none
termination_by structural c => c
/-- A function's results, told. -/
def Cfg.fin (C : Cfg) (fn : Func) (n0 : Nat) (e : Exit) (st : St) : Option Res := match e with
  | .normal | .ret => match resultsD C.P st fn.results.toList with
    | some ds => finD n0 st.σ ds fun d σ => some (d, σ)
    | none => none
  | _ => none
/-- The loop of function f, on the way p, for m rounds from st on; n0: how many blocks there were as it began. -/
def Cfg.loop (C : Cfg) (d : Nat) (f : FuncId) (p : List Bool) (ms : List (Nat × Nat)) (n0 : Nat) (m : Nat) (st : St) : Option Res :=
  match C.P.funcs[f]? with
  | some fn => match fn.body with
    | some c =>
      let E := C.env d f fn (C.both d).1 (C.both d).2
      match loopAt E 0 none c 0 p ms (C.fin fn 0) with
      | some (c, bid, k) => loopD E (fun st k => codeD E 0 none c bid st k) bid n0 m st k
      | none => none
    | none => none
  | none => none
/-- Temporaries, few of which hold anything. -/
def tmOf (n : Nat) (l : List (Nat × D)) : List D := l.foldl (fun t p => t.set p.1 p.2) (List.replicate n .any)
abbrev w64 (n : Int) : Int := IntKind.i64.wrap n
theorem cp {α : Type} {p : Prop} [Decidable p] {a b : α} (h : p) : (bif decide p then a else b) = a := by rw [decide_eq_true h]; rfl
theorem cn {α : Type} {p : Prop} [Decidable p] {a b : α} (h : ¬ p) : (bif decide p then a else b) = b := by rw [decide_eq_false h]; rfl
theorem ca {α : Type} {p q : Prop} [Decidable p] [Decidable q] {a b : α} (h : p ∧ q) : (bif decide p && decide q then a else b) = a := by rw [decide_eq_true h.1, decide_eq_true h.2]; rfl

end Go.Am
namespace Go.Am
open Go Go.RowKit

/-! ### A law's arguments, as rows -/
mutual
def CT.ok : (c : CT) → c.T → Prop
  | .int k, n => (Lit.int k n).wf = true
  | .bool, _ => True
  | .str, _ => True
  | .sl r, xs => List.length xs ≤ 9223372036854775807 ∧ ∀ x ∈ xs, Row.ok r x
def Row.ok : (r : Row) → r.T → Prop
  | .one c, x => CT.ok c x
  | .cons c r, x => CT.ok c x.1 ∧ Row.ok r x.2
end
abbrev rdA (W : World) : Addr → Value → Prop := (rsit (fun _ _ => True) W).rd
theorem rdA_mk {W : World} {a : Addr} {v : Value} (h : W.cell? a = some v) : rdA W a v := by
  refine ⟨?_, h, trivial, fun i hi => by cases hi⟩
  unfold World.cell? at h
  split at h
  · split at h
    · cases h
    · rename_i hs
      simpa using hs
  · cases h
/-- What an argument's reading says. -/
structure OpR (P : Program) (t : TypeId) (r : Row) : Prop where
  run : ∀ {H : Type} {enc : TypeId × Value → H} {W : World} {fuel : Nat} {cs : List Value} {x : DataW H × List MemPlace}, DataW.trod enc P W 0 (fun _ => true) true fuel t cs = some x → ∃ a : r.T, Row.R (rdA W) r cs a ∧ Row.ok r a
theorem OpR.int {P : Program} {t : TypeId} {k : IntKind} (ht : P.underlying t = some (.int k)) : OpR P t (.one (.int k)) :=
  ⟨fun h => by
    obtain ⟨n, rfl, _, hw⟩ := DataW.trod_int ht h
    exact ⟨n, ⟨_, rfl, rfl⟩, hw⟩⟩
theorem OpR.bool {P : Program} {t : TypeId} (ht : P.underlying t = some .bool) : OpR P t (.one .bool) :=
  ⟨fun h => by
    obtain ⟨n, rfl, _⟩ := DataW.trod_bool ht h
    exact ⟨n, ⟨_, rfl, rfl⟩, trivial⟩⟩
theorem OpR.slice {P : Program} {t e : TypeId} {r : Row} (ht : P.underlying t = some (.slice e)) (hc : P.cellsOf e = r.size) (he : OpR P e r) : OpR P t (.one (.sl r)) := by
  refine ⟨fun {H enc W fuel cs x} h => ?_⟩
  rcases Deep.open_slice ht h with ⟨rfl, _⟩ | ⟨a, len, cap, m, n, D, Pl, rfl, _, hl, hm, hmm, _, hx⟩
  · exact ⟨([] : List r.T), ⟨_, rfl, none, 0, rfl, Nat.le_refl _, fun i x h => by simp at h⟩, by simp, by simp⟩
  · have hm' : cap ≤ 9223372036854775807 := by unfold maxLen at hm; exact hm
    have hme : m = cap := by simpa using hmm
    have hel : ∀ i, i < len → ∃ y : r.T, (∃ cs', W.cells? 0 (a.add (i * P.cellsOf e)) (P.cellsOf e) = some cs' ∧ Row.R (rdA W) r cs' y) ∧ Row.ok r y := by
      intro i hi
      obtain ⟨cs', h1, h2⟩ := hx i (by omega)
      obtain ⟨y, hy, hB⟩ := he.run h2
      exact ⟨y, ⟨cs', h1, hy⟩, hB⟩
    rcases Nat.eq_zero_or_pos len with h0 | h0
    · subst h0
      exact ⟨([] : List r.T), ⟨_, rfl, some a, cap, rfl, Nat.zero_le _, fun i x h => by simp at h⟩, by simp, by simp⟩
    · have : Inhabited r.T := ⟨Classical.choose (hel 0 h0)⟩
      obtain ⟨f, hf⟩ := Deep.choose_lt (p := fun i y => (∃ cs', W.cells? 0 (a.add (i * P.cellsOf e)) (P.cellsOf e) = some cs' ∧ Row.R (rdA W) r cs' y) ∧ Row.ok r y) hel
      have hlen : ((List.range len).map f).length = len := by simp
      refine ⟨((List.range len).map f : List r.T), ⟨_, rfl, some a, cap, by rw [hlen], by rw [hlen]; exact hl, fun i p hj => ?_⟩, by rw [hlen]; omega, ?_⟩
      · have hjl : i < len := by
          have := (List.getElem?_eq_some_iff.1 hj).1
          rwa [hlen] at this
        have hp : p = f i := by
          rw [List.getElem?_map, List.getElem?_range hjl] at hj
          exact (Option.some.inj hj).symm
        subst hp
        obtain ⟨⟨cs', h1, h2⟩, _⟩ := hf i hjl
        obtain ⟨_, h3, h4⟩ := World.cells?_some h1
        rw [hc] at h3 h4
        refine ⟨a, cs', rfl, h3, fun j u hu => ?_, h2⟩
        have hi : j < r.size := by
          have := (List.getElem?_eq_some_iff.1 hu).1
          omega
        rw [← Deep.add_add]
        exact rdA_mk ((h4 j hi).trans hu)
      · intro y hy
        obtain ⟨i, hi, rfl⟩ := List.mem_map.1 hy
        exact (hf i (List.mem_range.1 hi)).2
/-- Rows, one behind the other. -/
def Row.app : Row → Row → Row
  | .one c, s => .cons c s
  | .cons c r, s => .cons c (r.app s)
def Row.pair : (r s : Row) → r.T → s.T → (r.app s).T
  | .one _, _, x, y => (x, y)
  | .cons _ r, s, x, y => (x.1, Row.pair r s x.2 y)
theorem Row.R_app {rd : Addr → Value → Prop} : ∀ (r s : Row) (us vs : List Value) (x : r.T) (y : s.T), Row.R rd r us x → Row.R rd s vs y → Row.R rd (r.app s) (us ++ vs) (Row.pair r s x y)
  | .one _, _, _, _, _, _, ⟨v, e, h⟩, q => by subst e; exact ⟨v, _, rfl, h, q⟩
  | .cons _ r, s, _, vs, x, y, ⟨v, rest, e, h, p⟩, q => by subst e; exact ⟨v, rest ++ vs, rfl, h, Row.R_app r s rest vs x.2 y p q⟩
theorem Row.ok_app : ∀ (r s : Row) (x : r.T) (y : s.T), Row.ok r x → Row.ok s y → Row.ok (r.app s) (Row.pair r s x y)
  | .one _, _, _, _, h, q => ⟨h, q⟩
  | .cons _ r, s, x, y, h, q => ⟨h.1, Row.ok_app r s x.2 y h.2 q⟩
/-- A struct's fields from one place on. -/
structure OpF (P : Program) (fs : List Field) (off tot : Nat) (r : Row) : Prop where
  run : ∀ {H : Type} {enc : TypeId × Value → H} {W : World} {n : Nat} {cs : List Value}, cs.length = tot → (∀ (i : Nat) (f : Field), fs[i]? = some f → ∃ y, DataW.trod enc P W 0 (fun _ => true) true n f.type ((cs.drop f.offset).take (P.cellsOf f.type)) = some y) → ∃ a : r.T, Row.R (rdA W) r (cs.drop off) a ∧ Row.ok r a
theorem OpF.last {P : Program} {f : Field} {off tot : Nat} {r : Row} (ho : f.offset = off) (ht : off + P.cellsOf f.type = tot) (h : OpR P f.type r) : OpF P [f] off tot r := by
  refine ⟨fun {H enc W n cs} hl hy => ?_⟩
  obtain ⟨y, hy⟩ := hy 0 f rfl
  obtain ⟨a, ha, hB⟩ := h.run hy
  rw [ho, List.take_of_length_le (by rw [List.length_drop]; omega)] at ha
  exact ⟨a, ha, hB⟩
theorem OpF.cons {P : Program} {f : Field} {fs : List Field} {off tot : Nat} {r s : Row} (ho : f.offset = off) (hs : P.cellsOf f.type = r.size) (h : OpR P f.type r) (hr : OpF P fs (off + r.size) tot s) : OpF P (f :: fs) off tot (r.app s) := by
  refine ⟨fun {H enc W n cs} hl hy => ?_⟩
  obtain ⟨y, hy0⟩ := hy 0 f rfl
  obtain ⟨a, ha, hB⟩ := h.run hy0
  obtain ⟨b, hb, hB2⟩ := hr.run hl (fun i g hg => hy (i + 1) g hg)
  rw [ho, hs] at ha
  refine ⟨Row.pair r s a b, ?_, Row.ok_app r s a b hB hB2⟩
  have := Row.R_app r s _ _ a b ha hb
  rwa [← List.drop_drop, List.take_append_drop] at this
theorem OpR.struct {P : Program} {t : TypeId} {fs : Array Field} {r : Row} (ht : P.underlying t = some (.struct fs)) (hF : OpF P fs.toList 0 (P.cellsOf t) r) : OpR P t r := by
  refine ⟨fun {H enc W fuel cs x} h => ?_⟩
  obtain ⟨xs, n, _, _, hl, hlen, hf⟩ := DataW.trod_struct ht h
  obtain ⟨a, ha, hB⟩ := hF.run (n := n) hl (fun i fl hfl => by
    have hfl' : fs[i]? = some fl := by simpa using hfl
    have hi : i < fs.size := (Array.getElem?_eq_some_iff.1 hfl').1
    exact ⟨xs[i]'(by omega), (hf i fl hfl').trans (List.getElem?_eq_getElem (by omega))⟩)
  exact ⟨a, by simpa using ha, hB⟩
/-- An array of few elements, as a struct. -/
theorem OpR.array {P : Program} {t n e : Nat} {fs : List Field} {r : Row} (ht : P.underlying t = some (.array n e)) (hfs : ∀ (i : Nat) (f : Field), fs[i]? = some f → i < n ∧ f.type = e ∧ f.offset = i * P.cellsOf e) (hF : OpF P fs 0 (P.cellsOf t) r) : OpR P t r := by
  refine ⟨fun {H enc W fuel cs x} h => ?_⟩
  obtain ⟨xs, m, _, _, hl, hlen, hf⟩ := DataW.trod_array ht h
  obtain ⟨a, ha, hB⟩ := hF.run (n := m) hl (fun i f hfl => by
    obtain ⟨h1, h2, h3⟩ := hfs i f hfl
    rw [h2, h3]
    exact ⟨xs[i]'(by omega), (hf i h1).trans (List.getElem?_eq_getElem (by omega))⟩)
  exact ⟨a, by simpa using ha, hB⟩
theorem ct_d {S : Sit} : ∀ {c : CT} {v : Value} {x : c.T}, CT.R S.rd c v x → R S (c.d x) v
  | .int _, _, _, h => h
  | .bool, _, _, h => h
  | .str, _, _, h => h
  | .sl _, _, _, h => ⟨h, trivial⟩
theorem row_ds {S : Sit} : ∀ {r : Row} {vs : List Value} {x : r.T}, Row.R S.rd r vs x → Rs S (r.ds x) vs
  | .one _, _, _, ⟨v, e, h⟩ => ⟨v, [], e, ct_d h, rfl⟩
  | .cons _ r, _, _, ⟨v, rest, e, h, p⟩ => ⟨v, rest, e, ct_d h, row_ds p⟩
/-- A struct that is passed, and a slice. -/
theorem arg_agg {W : World} {r : Row} {v : Value} {x : r.T} (h : Row.R (rdA W) r v.cells.toList x) (hr : 2 ≤ r.size) : R (rsit (fun _ _ => True) W) (.agg (r.ds x)) v := by
  have hl : 2 ≤ v.cells.toList.length := by rw [Row.R_size r _ _ h]; exact hr
  have e : v = .agg v.cells := by
    cases v <;> simp [Value.cells] at hl ⊢
  exact ⟨v.cells.toList, by rw [Array.toArray_toList]; exact e, row_ds h⟩
theorem arg_sl {W : World} {r : Row} {a : Option Addr} {n c : Nat} {xs : List r.T} (h : Row.R (rdA W) (.one (.sl r)) (Value.slice a n c).cells.toList xs) : R (rsit (fun _ _ => True) W) (.sl r xs .no) (.slice a n c) := by
  obtain ⟨v, e, h⟩ := h
  simp [Value.cells] at e
  subst e
  exact ⟨h, trivial⟩
end Go.Am
