/- Own text: drawn regions come out as the evaluator says, whatever the order. -/
import Derived.Test.YtlofmgdjnaajjaaEv21
namespace Go.Ev
open Go Go.RowKit
set_option linter.unusedVariables false
set_option linter.unusedSimpArgs false

theorem or_split {a b : Bool} (h : (a || b) = true) : a = true ∨ b = true := by simpa using h

theorem dstOk_fresh : ∀ {ops : List Oper} {l : List Nat}, dstOk l ops = true → ∀ (i : Nat) (o : Oper) (d : Nat), ops[i]? = some o → o.dst = some d → d ∉ l
  | [], l, _, i, o, d, h, _ => by simp at h
  | o0 :: r, l, h, i, o, d, hi, hd => by
    simp only [dstOk] at h
    cases i with
    | zero =>
      simp at hi; subst hi
      rw [hd] at h
      simp only at h
      split at h
      · cases h
      · rename_i hc; simpa using hc
    | succ i =>
      split at h
      · split at h
        · cases h
        · have := dstOk_fresh h i o d (by simpa using hi) hd
          exact fun hm => this (List.mem_cons_of_mem _ hm)
      · exact dstOk_fresh h i o d (by simpa using hi) hd
theorem dstOk_unique : ∀ {ops : List Oper} {l : List Nat}, dstOk l ops = true → ∀ (i j : Nat) (o o' : Oper) (d : Nat), ops[i]? = some o → ops[j]? = some o' → o.dst = some d → o'.dst = some d → i = j
  | [], l, _, i, j, o, o', d, h, _, _, _ => by simp at h
  | o0 :: r, l, h, 0, 0, o, o', d, hi, hj, hd, hd' => rfl
  | o0 :: r, l, h, 0, j + 1, o, o', d, hi, hj, hd, hd' => by
    simp at hi; subst hi
    simp only [dstOk, hd] at h
    split at h
    · cases h
    · exact absurd List.mem_cons_self (dstOk_fresh h j o' d (by simpa using hj) hd')
  | o0 :: r, l, h, i + 1, 0, o, o', d, hi, hj, hd, hd' => by
    simp at hj; subst hj
    simp only [dstOk, hd'] at h
    split at h
    · cases h
    · exact absurd List.mem_cons_self (dstOk_fresh h i o d (by simpa using hi) hd)
  | o0 :: r, l, h, i + 1, j + 1, o, o', d, hi, hj, hd, hd' => by
    simp only [dstOk] at h
    split at h
    · split at h
      · cases h
      · rw [dstOk_unique h i j o o' d (by simpa using hi) (by simpa using hj) hd hd']
    · rw [dstOk_unique h i j o o' d (by simpa using hi) (by simpa using hj) hd hd']

theorem seenOk_spec {bs : List Nat} {i : Nat} {ts : List Nat} : ∀ {ops : List Oper} {j0 : Nat}, seenOk bs i ts j0 ops = true → ∀ (j : Nat) (o : Oper) (d : Nat), ops[j]? = some o → o.dst = some d → d ∈ ts → (Nat.testBit (bs.getD i 0) (j0 + j) = true ∧ j0 + j < i) ∨ (Nat.testBit (bs.getD (j0 + j) 0) i = true ∧ i < j0 + j)
  | [], j0, _, j, o, d, h, _, _ => by simp at h
  | o0 :: r, j0, h, j, o, d, hj, hd, hm => by
    simp only [seenOk] at h
    have h := and_split h
    cases j with
    | zero =>
      simp at hj; subst hj
      have h1 := h.1
      rw [hd] at h1
      simp only at h1
      have hc : ts.contains d = true := by simpa using hm
      rw [hc] at h1
      simp only at h1
      rcases or_split h1 with h2 | h2
      · have := and_split h2; exact .inl ⟨this.1, blt_lt this.2⟩
      · have := and_split h2; exact .inr ⟨this.1, blt_lt this.2⟩
    | succ j =>
      have := seenOk_spec h.2 j o d (by simpa using hj) hd hm
      rwa [show j0 + 1 + j = j0 + (j + 1) by omega] at this

theorem eachOk_spec {all : Array Oper} {bs : List Nat} : ∀ {ops : List Oper} {i0 : Nat}, eachOk all bs i0 ops = true → ∀ (i : Nat) (o : Oper), ops[i]? = some o → seenOk bs (i0 + i) (looksOf all o) 0 all.toList = true ∧ guardOk all (bs.getD (i0 + i) 0) o = true ∧ afterOk (i0 + i) o.after.toList = true
  | [], i0, _, i, o, h => by simp at h
  | o0 :: r, i0, h, i, o, hi => by
    simp only [eachOk] at h
    have h := and_split h
    have h1 := and_split h.1
    have h2 := and_split h1.1
    have h3 := and_split h2.1
    cases i with
    | zero => simp at hi; subst hi; exact ⟨h3.1, h3.2, h2.2⟩
    | succ i =>
      have := eachOk_spec h.2 i o (by simpa using hi)
      rwa [show i0 + 1 + i = i0 + (i + 1) by omega] at this

theorem afterOk_spec {i : Nat} : ∀ {l : List Edge}, afterOk i l = true → ∀ e ∈ l, Region.binds .any e = true → e.on < i
  | [], _, e, he, _ => by cases he
  | e0 :: r, h, e, he, hb => by
    simp only [afterOk] at h
    have h := and_split h
    rcases List.mem_cons.1 he with rfl | he
    · have := h.1; rw [hb] at this; exact blt_lt this
    · exact afterOk_spec h.2 e he hb

theorem maskE_spec {acc : List Nat} {k : Nat} : ∀ {l : List Edge}, Nat.testBit (maskE acc l) k = true → ∃ e ∈ l, Region.binds .any e = true ∧ (k = e.on ∨ Nat.testBit (acc.getD e.on 0) k = true)
  | [], h => by simp [maskE] at h
  | e0 :: r, h => by
    simp only [maskE] at h
    split at h
    · rename_i hb
      have h' : (2 ^ e0.on ||| acc.getD e0.on 0 ||| maskE acc r).testBit k = true := h
      rw [Nat.testBit_or, Nat.testBit_or] at h'
      rcases or_split h' with h1 | h1
      · rcases or_split h1 with h2 | h2
        · rw [Nat.testBit_two_pow] at h2
          exact ⟨e0, List.mem_cons_self, hb, .inl (by simpa using (of_decide_eq_true h2).symm)⟩
        · exact ⟨e0, List.mem_cons_self, hb, .inr h2⟩
      · obtain ⟨e, he, h2⟩ := maskE_spec h1
        exact ⟨e, List.mem_cons_of_mem _ he, h2⟩
    · obtain ⟨e, he, h2⟩ := maskE_spec h
      exact ⟨e, List.mem_cons_of_mem _ he, h2⟩

theorem befGo_old : ∀ {ops : List Oper} {acc : List Nat} {j : Nat}, j < acc.length → (befGo acc ops).getD j 0 = acc.getD j 0
  | [], acc, j, h => rfl
  | o :: r, acc, j, h => by
    rw [befGo, befGo_old (by simp; omega)]
    simp [List.getD_eq_getElem?_getD, List.getElem?_append_left h]
theorem befGo_at : ∀ {ops : List Oper} {acc : List Nat} {i : Nat} {o : Oper}, ops[i]? = some o → ∃ acc', (befGo acc ops).getD (acc.length + i) 0 = maskE acc' o.after.toList ∧ ∀ j, j < acc.length + i → acc'.getD j 0 = (befGo acc ops).getD j 0
  | [], acc, i, o, h => by simp at h
  | o0 :: r, acc, 0, o, h => by
    simp at h; subst h
    refine ⟨acc, ?_, fun j hj => ?_⟩
    · rw [befGo, befGo_old (by simp)]
      simp [List.getD_eq_getElem?_getD]
    · rw [befGo, befGo_old (by simp; omega)]
      rw [Nat.add_zero] at hj
      simp [List.getD_eq_getElem?_getD, List.getElem?_append_left hj]
  | o0 :: r, acc, i + 1, o, h => by
    obtain ⟨acc', h1, h2⟩ := befGo_at (acc := acc ++ [maskE acc o0.after.toList]) (ops := r) (i := i) (by simpa using h)
    refine ⟨acc', ?_, fun j hj => ?_⟩
    · rw [befGo]
      rw [← h1]
      congr 1
      simp
      omega
    · rw [befGo]
      exact h2 j (by simp; omega)

/-- What must have come before hangs together. -/
theorem befs_spec {ops : List Oper} {i : Nat} {o : Oper} (hi : ops[i]? = some o) (ha : afterOk i o.after.toList = true) {k : Nat} (h : Nat.testBit ((befs ops).getD i 0) k = true) : ∃ e ∈ o.after.toList, Region.binds .any e = true ∧ (k = e.on ∨ Nat.testBit ((befs ops).getD e.on 0) k = true) := by
  obtain ⟨acc', h1, h2⟩ := befGo_at (acc := []) hi
  simp only [List.length_nil, Nat.zero_add] at h1 h2
  unfold befs at h ⊢
  rw [h1] at h
  obtain ⟨e, he, hb, hk⟩ := maskE_spec h
  refine ⟨e, he, hb, hk.imp id fun hk => ?_⟩
  rw [← h2 e.on (afterOk_spec ha e he hb)]
  exact hk

theorem nsAt_succ : ∀ {st : Steps'} {k n : Nat} {o : Oper} {it : It}, st[k]? = some (o, it) → nsAt (k + 1) st n = if it.e = true then it.n else nsAt k st n
  | [], k, n, o, it, h => by simp at h
  | (o0, it0) :: r, 0, n, o, it, h => by
    simp only [List.getElem?_cons_zero, Option.some.injEq, Prod.mk.injEq] at h
    obtain ⟨rfl, rfl⟩ := h
    simp [nsAt]
    cases r <;> simp [nsAt]
  | (o0, it0) :: r, k + 1, n, o, it, h => by
    have := nsAt_succ (st := r) (k := k) (n := if it0.e = true then it0.n else n) (by simpa using h)
    simpa only [nsAt] using this

section
variable {P : Program} {callE : CallE} {cfg : Cfg} {fid : FuncId} {ops : Array Oper} {A : Anc}

def GoodD (P : Program) (callE : CallE) (cfg : Cfg) (fid : FuncId) (ops : Array Oper) (o : Oper) (it : It) : Prop :=
  (it.e = true → opD P callE cfg fid it.s.env it.s.heap.live it.s.next o (fun v u n => v = it.v ∧ u = it.u ∧ n = it.n) ∧ it.R = (fpL it.s.env o).1 ∧ it.W = (fpL it.s.env o).2 ++ (if Nat.beq it.n it.s.next then [] else [it.s.next])) ∧
  (match o.guard with
    | none => it.e = true
    | some (j, want) => ∃ t y, (ops[j]?).bind (·.dst) = some t ∧ look it.s.env t = some (.v y) ∧ it.e = ((match y with | .bool b => some b | _ => none) == some want))

theorem look_same {s : St} {t : Tmp} {c : Bool} (h : look s.env t = some (.v (.bool c))) (t' : Nat) : look ((t, AV.v (.bool c)) :: s.env) t' = look s.env t' := by
  by_cases e : t = t'
  · subst e; rw [look_cons_self, h]
  · rw [look_cons_ne _ _ e]

theorem regD_trace (hm : MonoC callE) (hd : DetC callE) {bs : List Nat} {K : St → Prop} : ∀ {l : List Oper} {i : Nat} {done : Fps} {s : St}, regD P callE cfg fid ops bs l i done s K → ∃ (its : List It) (sN : St), its.length = l.length ∧ Trace (GoodD P callE cfg fid ops) bs i done s (l.zip its) sN ∧ K sN
  | [], i, done, s, h => ⟨[], s, rfl, rfl, h⟩
  | o :: rest, i, done, s, h => by
    have run : ∀ {s1 : St}, s1.heap = s.heap → s1.next = s.next → (∀ t, look s1.env t = look s.env t) → (match o.guard with
        | none => True
        | some (j, want) => ∃ t y, (ops[j]?).bind (·.dst) = some t ∧ look s1.env t = some (.v y) ∧ true = ((match y with | .bool b => some b | _ => none) == some want)) →
        stepD P callE cfg fid bs o i done s1 (fun d s' => regD P callE cfg fid ops bs rest (i + 1) d s' K) → ∃ (its : List It) (sN : St), its.length = (o :: rest).length ∧ Trace (GoodD P callE cfg fid ops) bs i done s ((o :: rest).zip its) sN ∧ K sN := fun {s1} e1 e2 e3 hg h => by
      unfold stepD at h
      obtain ⟨v, u, n, h1, h2⟩ := opD_det hm hd h
      split at h2
      · rename_i hf
        obtain ⟨its, sN, k1, k2, k3⟩ := regD_trace hm hd h2
        refine ⟨⟨s1, true, v, u, n, (fpL s1.env o).1, (fpL s1.env o).2 ++ (if Nat.beq n s1.next then [] else [s1.next])⟩ :: its, sN, by simp [k1], ⟨e1, e2, e3, ⟨fun _ => ⟨h1, rfl, rfl⟩, ?_⟩, fun _ => hf, ?_⟩, k3⟩
        · cases hgg : o.guard with
          | none => rfl
          | some p => obtain ⟨j, want⟩ := p; rw [hgg] at hg; exact hg
        · simp only [It.post, if_true]
          exact k2
      · exact h2.elim
    have skip : ∀ {s1 : St}, s1.heap = s.heap → s1.next = s.next → (∀ t, look s1.env t = look s.env t) → (match o.guard with
        | none => False
        | some (j, want) => ∃ t y, (ops[j]?).bind (·.dst) = some t ∧ look s1.env t = some (.v y) ∧ false = ((match y with | .bool b => some b | _ => none) == some want)) →
        regD P callE cfg fid ops bs rest (i + 1) done (St.set s1 o.dst (.v undef)) K → ∃ (its : List It) (sN : St), its.length = (o :: rest).length ∧ Trace (GoodD P callE cfg fid ops) bs i done s ((o :: rest).zip its) sN ∧ K sN := fun {s1} e1 e2 e3 hg h => by
      obtain ⟨its, sN, k1, k2, k3⟩ := regD_trace hm hd h
      refine ⟨⟨s1, false, .v undef, [], 0, [], []⟩ :: its, sN, by simp [k1], ⟨e1, e2, e3, ⟨fun e => (by cases e), ?_⟩, fun e => (by cases e), ?_⟩, k3⟩
      · cases hgg : o.guard with
        | none => rw [hgg] at hg; exact hg.elim
        | some p => obtain ⟨j, want⟩ := p; rw [hgg] at hg; exact hg
      · simp only [It.post, Bool.false_eq_true, if_false]
        exact k2
    simp only [regD] at h
    split at h
    · rename_i hg
      exact run rfl rfl (fun _ => rfl) (by rw [hg]; trivial) h
    · rename_i j want hg
      split at h
      · rename_i t hj
        split at h
        · rename_i c ht
          split at h
          · exact run (s1 := { s with env := (t, .v (.bool true)) :: s.env }) rfl rfl (look_same ht) (by rw [hg]; exact ⟨t, _, hj, look_cons_self _ _ _, rfl⟩) h
          · exact skip (s1 := { s with env := (t, .v (.bool true)) :: s.env }) rfl rfl (look_same ht) (by rw [hg]; exact ⟨t, _, hj, look_cons_self _ _ _, rfl⟩) h
          · exact run (s1 := { s with env := (t, .v (.bool false)) :: s.env }) rfl rfl (look_same ht) (by rw [hg]; exact ⟨t, _, hj, look_cons_self _ _ _, rfl⟩) h
          · exact skip (s1 := { s with env := (t, .v (.bool false)) :: s.env }) rfl rfl (look_same ht) (by rw [hg]; exact ⟨t, _, hj, look_cons_self _ _ _, rfl⟩) h
        · rename_i vs ht
          exact skip rfl rfl (fun _ => rfl) (by rw [hg]; exact ⟨t, _, hj, ht, rfl⟩) h
        · exact h.elim
      · exact h.elim
end
end Go.Ev
