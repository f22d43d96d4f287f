/- Own text: drawn regions come out as the evaluator says. -/
import Derived.Test.YtlofmgdjnaajjaaEv22
namespace Go.Ev
open Go Go.RowKit
set_option linter.unusedVariables false
set_option linter.unusedSimpArgs false

section
variable {P : Program} {callE : CallE} {cfg : Cfg} {fid : FuncId} {ops : Array Oper} {A : Anc} {st : Steps'} {s0 : St} {η0 : Eta}

/-- Part of the region has come. -/
structure Inv (ops : Array Oper) (A : Anc) (st : Steps') (s0 : St) (η0 : Eta) (listed : Array Bool) (a : Act) (w : World) : Prop where
  size : listed.size = ops.size
  closed : ∀ j, listed.getD j false = true → ∀ k, Nat.testBit ((befs ops.toList).getD j 0) k = true → listed.getD k false = true
  ex : ∃ η : Eta, (∀ t v, es (fun j => listed.getD j false) 0 st (look s0.env) t = some v → ∃ x, a.tmps[t]? = some x ∧ VRel w (Own A.O0 η (hs (fun j => listed.getD j false) 0 st s0.heap.live)) η v x) ∧
    HRel A.O0 η (hs (fun j => listed.getD j false) 0 st s0.heap.live) w ∧
    (∀ b, η b ≠ none → b < s0.next ∨ ∃ (j : Nat) (o : Oper) (it : It), st[j]? = some (o, it) ∧ listed.getD j false = true ∧ it.e = true ∧ it.s.next ≤ b ∧ b < it.n) ∧
    (∀ b, b < s0.next → η b = η0 b) ∧ Kept A.O A.w (Own A.O0 η (hs (fun j => listed.getD j false) 0 st s0.heap.live)) w ∧ Below 0 A.w w ∧ (∀ c, A.O0 c → w.heap[c]? = A.w.heap[c]?)
  tsize : A.N ≤ a.tmps.size
  defers : a.defers = []

theorem nsAt_le (hn : ∀ (k : Nat) (o : Oper) (it : It), st[k]? = some (o, it) → it.e = true → it.s.next = nsAt k st s0.next ∧ it.s.next ≤ it.n) : ∀ (d k : Nat), k + d ≤ st.length → nsAt k st s0.next ≤ nsAt (k + d) st s0.next
  | 0, k, _ => Nat.le_refl _
  | d + 1, k, h => by
    have h1 := nsAt_le hn d k (by omega)
    have hlt : k + d < st.length := by omega
    obtain ⟨⟨o, it⟩, hp⟩ : ∃ p, st[k + d]'hlt = p := ⟨_, rfl⟩
    have hget : st[k + d]? = some (o, it) := by rw [List.getElem?_eq_getElem hlt, hp]
    rw [show k + (d + 1) = k + d + 1 by omega, nsAt_succ hget]
    split
    · rename_i he
      have := hn _ _ _ hget he
      omega
    · exact h1

theorem getD_set_listed {listed : Array Bool} {i j : Nat} (h : i < listed.size) : (listed.setIfInBounds i true).getD j false = if j = i then true else listed.getD j false := by
  by_cases e : j = i
  · subst e; simp [h]
  · simp only [if_neg e, Array.getD_eq_getD_getElem?]
    rw [Array.getElem?_setIfInBounds_ne (Ne.symm e)]

theorem put_size (a : Act) (d : Option Tmp) (x : Value) : (a.put d x).tmps.size = a.tmps.size := by cases d <;> simp [Act.put]
theorem put_defers (a : Act) (d : Option Tmp) (x : Value) : (a.put d x).defers = a.defers := by cases d <;> rfl
theorem put_self {a : Act} {d : Tmp} {x : Value} (h : d < a.tmps.size) : (a.put (some d) x).tmps[d]? = some x := by simp [Act.put, h]
theorem put_ne {a : Act} {d : Option Tmp} {t : Tmp} {x : Value} (h : d ≠ some t) : (a.put d x).tmps[t]? = a.tmps[t]? := by
  cases d with
  | none => rfl
  | some d => simp only [Act.put]; rw [Array.getElem?_setIfInBounds_ne (fun e => h (by rw [e]))]

set_option maxHeartbeats 2000000 in
theorem inv_step (hc : CfgOk P cfg) (hs' : SoundC P callE) (hm : MonoC callE) (hdt : DetC callE) {sN : St} (hst : st.map Prod.fst = ops.toList) (htr : Trace (GoodD P callE cfg fid ops) (befs ops.toList) 0 [] s0 st sN)
    (hok : drawOk ops = true) (hdst : dstUnder A.N ops.toList = true) {Q : Exit → Act → World → Prop} {listed : Array Bool} {a : Act} {w : World} (I : Inv ops A st s0 η0 listed a w) {i : Nat} (hi : i ∈ Region.ready .any ops listed) :
    wpOp P ops Q i (fun a' w' => Inv ops A st s0 η0 (listed.setIfInBounds i true) a' w') a w := by
  obtain ⟨hun, o, ho, hready⟩ := mem_ready.1 hi
  have hisz : i < ops.size := (Array.getElem?_eq_some_iff.1 ho).1
  have hil : i < listed.size := by rw [I.size]; exact hisz
  have hLi : listed.getD i false = false := by
    simp only [Array.getD_eq_getD_getElem?] at hun ⊢
    rw [Array.getElem?_eq_getElem hil] at hun ⊢
    simpa using hun
  have hlen : st.length = ops.size := by have := congrArg List.length hst; simpa using this
  have hops : ∀ (j : Nat) (o' : Oper) (it' : It), st[j]? = some (o', it') → ops.toList[j]? = some o' := fun j o' it' h => by rw [← hst]; simp [h]
  have hol : ops.toList[i]? = some o := by simpa using ho
  obtain ⟨it, hit⟩ : ∃ it, st[i]? = some (o, it) := by
    have hlt : i < st.length := by omega
    have h1 := hops i _ _ (List.getElem?_eq_getElem hlt)
    rw [hol] at h1
    exact ⟨(st[i]'hlt).2, by rw [List.getElem?_eq_getElem hlt]; simp at h1; rw [h1]⟩
  unfold drawOk at hok
  have hok := and_split hok
  have each : ∀ (j : Nat) (o' : Oper) (it' : It), st[j]? = some (o', it') → seenOk (befs ops.toList) j (looksOf ops o') 0 ops.toList = true ∧ guardOk ops ((befs ops.toList).getD j 0) o' = true ∧ afterOk j o'.after.toList = true := fun j o' it' h => by
    have := eachOk_spec hok.2 j o' (hops j o' it' h)
    simpa using this
  obtain ⟨hseen, hguard, hafter⟩ := each i o it hit
  -- all that must have come has come
  have hbef : ∀ k, Nat.testBit ((befs ops.toList).getD i 0) k = true → listed.getD k false = true := fun k hk => by
    obtain ⟨e, he, hb, hke⟩ := befs_spec hol hafter hk
    have hle := hready e (by simpa using he) hb
    rcases hke with rfl | hke
    · exact hle
    · exact I.closed _ hle k hke
  have hnot : ∀ j, Nat.testBit ((befs ops.toList).getD j 0) i = true → listed.getD j false = false := fun j hj => by
    cases hL : listed.getD j false with
    | false => rfl
    | true => have := I.closed j hL i hj; rw [hLi] at this; cases this
  obtain ⟨hgood, henv, hheap, hnext⟩ := trace_at htr i o it hit
  simp only [Nat.zero_add] at henv hheap
  have hgoodj : ∀ (j : Nat) (o' : Oper) (it' : It), st[j]? = some (o', it') → it'.e = true → Keys it'.s.env o' it'.s.next it'.u it'.n ∧ it'.R = (fpL it'.s.env o').1 ∧ it'.W = (fpL it'.s.env o').2 ++ (if Nat.beq it'.n it'.s.next then [] else [it'.s.next]) := fun j o' it' h he => by
    obtain ⟨hg, _⟩ := trace_at htr j o' it' h
    obtain ⟨h1, h2, h3⟩ := hg.1 he
    exact ⟨opD_keys hdt h1, h2, h3⟩
  have hkey : ∀ (j : Nat) (o' : Oper) (it' : It) (b : Nat), st[j]? = some (o', it') → it'.e = true → look it'.u b ≠ none → b ∈ it'.W := fun j o' it' b h he hb => by
    obtain ⟨⟨hk1, hk2⟩, _, h3⟩ := hgoodj j o' it' h he
    rw [h3]
    rcases hk2 b hb with hh | ⟨rfl, hh⟩
    · exact List.mem_append_left _ hh
    · have : Nat.beq it'.n it'.s.next = false := by
        cases hq : Nat.beq it'.n it'.s.next with
        | false => rfl
        | true => have := Nat.eq_of_beq_eq_true hq; omega
      rw [this]
      simp
  have hfp2 : ∀ (j k : Nat) (oj : Oper) (ij : It) (ok : Oper) (ik : It), st[j]? = some (oj, ij) → st[k]? = some (ok, ik) → ij.e = true → ik.e = true → k < j → Nat.testBit ((befs ops.toList).getD j 0) k = true ∨ (apartL ij.W (ik.R ++ ik.W) = true ∧ apartL ij.R ik.W = true) := fun j k oj ij ok ik h1 h2 e1 e2 hlt => by
    have := (trace_fp htr j oj ij h1 e1).2 k ok ik hlt h2 e2
    simpa using this
  -- what touches the same as operation i has come if and only if it stands before it
  have htouch : it.e = true → ∀ b, (b ∈ it.R ∨ b ∈ it.W) → ∀ (j : Nat) (o' : Oper) (it' : It), st[j]? = some (o', it') → it'.e = true → b ∈ it'.W → j ≠ i → listed.getD j false = decide (j < i) := fun he b hb j o' it' hj hej hbW hne => by
    rcases Nat.lt_or_gt_of_ne hne with hlt | hgt
    · rcases hfp2 i j o it o' it' hit hj he hej hlt with h1 | ⟨h1, h2⟩
      · simp [hbef j h1, hlt]
      · rcases hb with hb | hb
        · exact absurd hbW (apart_not h2 hb)
        · exact absurd (List.mem_append_right _ hbW) (apart_not h1 hb)
    · rcases hfp2 j i o' it' o it hj hit hej he hgt with h1 | ⟨h1, h2⟩
      · simp [hnot j h1, Nat.not_lt_of_gt hgt]
      · rcases hb with hb | hb
        · exact absurd (List.mem_append_left _ hb) (apart_not h1 hbW)
        · exact absurd (List.mem_append_right _ hb) (apart_not h1 hbW)
  obtain ⟨η, I1, I2, I3, I4, I5, I6, I7⟩ := I.ex
  -- temporaries that operation i looks at
  have hsame : ∀ t, t ∈ looksOf ops o → es (fun j => listed.getD j false) 0 st (look s0.env) t = look it.s.env t := fun t ht => by
    rw [henv t]
    refine es_congr rfl fun j o' it' hj hd => ?_
    rw [Nat.zero_add]
    rcases seenOk_spec hseen j o' t (hops j o' it' hj) hd ht with ⟨h1, h2⟩ | ⟨h1, h2⟩
    · rw [Nat.zero_add] at h1 h2; simp [hbef j h1, h2]
    · rw [Nat.zero_add] at h1 h2; simp [hnot j h1, Nat.not_lt_of_gt h2]
  have hrel : ∀ t v, t ∈ looksOf ops o → look it.s.env t = some v → ∃ x, a.tmps[t]? = some x ∧ VRel w (Own A.O0 η (hs (fun j => listed.getD j false) 0 st s0.heap.live)) η v x := fun t v ht hv => I1 t v (by rw [hsame t ht]; exact hv)
  have hopd : Opd w (Own A.O0 η (hs (fun j => listed.getD j false) 0 st s0.heap.live)) η it.s.env a.eval o.op.operands.toList := fun x hx v hv => by
    cases x with
    | tmp t =>
      have hmem : t ∈ looksOf ops o := by
        unfold looksOf
        refine List.mem_append_left _ ?_
        have : ∀ (l : List Operand), Operand.tmp t ∈ l → t ∈ tmpsOf l := by
          intro l
          induction l with
          | nil => intro h; cases h
          | cons y r ih =>
            intro h
            rcases List.mem_cons.1 h with rfl | h2
            · simp [tmpsOf]
            · have h3 := ih h2
              cases y <;> simp [tmpsOf, h3]
        exact this _ hx
      obtain ⟨y, h1, h2⟩ := hrel t v hmem hv
      simpa [Act.eval, h1] using h2
    | const c => exact opA_rel (env := []) (a := a) (fun t v h => by cases h) (.const c) v (by simpa [opA] using hv)
    | global g => exact opA_rel (env := []) (a := a) (fun t v h => by cases h) (.global g) v (by simpa [opA] using hv)
    | func f => exact opA_rel (env := []) (a := a) (fun t v h => by cases h) (.func f) v (by simpa [opA] using hv)
  have hdsto : ∀ d, o.dst = some d → d < A.N := fun d hd => by
    have : ∀ (l : List Oper), dstUnder A.N l = true → o ∈ l → d < A.N := by
      intro l
      induction l with
      | nil => intro _ h; cases h
      | cons y r ih =>
        intro hl h
        obtain ⟨h1, h2⟩ := dst_under hl
        rcases List.mem_cons.1 h with rfl | h
        · exact h1 d hd
        · exact ih h2 h
    exact this _ hdst (List.mem_of_getElem? hol)
  have hclosed' : ∀ j, (listed.setIfInBounds i true).getD j false = true → ∀ k, Nat.testBit ((befs ops.toList).getD j 0) k = true → (listed.setIfInBounds i true).getD k false = true := fun j hj k hk => by
    rw [getD_set_listed hil] at hj ⊢
    split
    · rfl
    · split at hj
      · rename_i e; subst e; exact hbef k hk
      · exact I.closed j hj k hk
  -- the guard
  have hwanted : Region.wanted o (yielded ops a.tmps) = it.e := by
    have hg := hgood.2
    cases hgg : o.guard with
    | none => rw [hgg] at hg; simp only at hg; simp [Region.wanted, hgg, hg]
    | some p =>
      obtain ⟨j, want⟩ := p
      rw [hgg] at hg
      obtain ⟨t, y, h1, h2, h3⟩ := hg
      have hmem : t ∈ looksOf ops o := by
        unfold looksOf
        refine List.mem_append_right _ ?_
        simp [hgg, h1]
      obtain ⟨x, g1, g2⟩ := hrel t _ hmem h2
      cases vrel_v g2
      have hy : yielded ops a.tmps j = (match y with | .bool b => some b | _ => none) := by
        unfold yielded
        rw [h1]
        simp only [Option.bind_some, g1]
        cases y <;> rfl
      rw [h3]
      unfold Region.wanted
      rw [hgg]
      simp only
      rw [hy]
      cases y <;> rfl
  -- the new temporaries
  have hesne : ∀ t, o.dst ≠ some t → es (fun j => (listed.setIfInBounds i true).getD j false) 0 st (look s0.env) t = es (fun j => listed.getD j false) 0 st (look s0.env) t := fun t ht => by
    refine es_congr rfl fun j o' it' hj hd => ?_
    rw [Nat.zero_add, getD_set_listed hil, if_neg]
    rintro rfl
    rw [hit] at hj; cases hj
    exact ht hd
  have heseq : ∀ t, o.dst = some t → es (fun j => (listed.setIfInBounds i true).getD j false) 0 st (look s0.env) t = some it.val := fun t ht => by
    refine es_last (k := i) hit ht (by rw [Nat.zero_add, getD_set_listed hil, if_pos rfl]) fun j o' it' hlt hj hd => ?_
    have := dstOk_unique hok.1 i j o o' t hol (hops j o' it' hj) ht hd
    omega
  unfold wpOp
  rw [ho]
  simp only [hwanted]
  cases he : it.e with
  | false =>
    simp only [Bool.false_eq_true, if_false]
    have hhs : hs (fun j => (listed.setIfInBounds i true).getD j false) 0 st s0.heap.live = hs (fun j => listed.getD j false) 0 st s0.heap.live := funext fun b => hs_congr rfl fun j o' it' hj hej _ => by
      rw [Nat.zero_add, getD_set_listed hil, if_neg]
      rintro rfl
      rw [hit] at hj; cases hj
      rw [he] at hej; cases hej
    refine ⟨by simpa using I.size, hclosed', ⟨η, fun t v ht => ?_, by rw [hhs]; exact I2, fun b hb => ?_, I4, by rw [hhs]; exact I5, I6, I7⟩, ?_, ?_⟩
    · rw [hhs]
      by_cases hd : o.dst = some t
      · rw [heseq t hd] at ht
        cases ht
        refine ⟨undef, by rw [hd]; exact put_self (Nat.lt_of_lt_of_le (hdsto t hd) I.tsize), ?_⟩
        simp only [It.val, he]
        exact .v _ _
      · rw [hesne t hd] at ht
        obtain ⟨x, h1, h2⟩ := I1 t v ht
        exact ⟨x, by rw [put_ne hd]; exact h1, h2⟩
    · rcases I3 b hb with h | ⟨j, o', it', h1, h2, h3⟩
      · exact .inl h
      · refine .inr ⟨j, o', it', h1, ?_, h3⟩
        rw [getD_set_listed hil]; split
        · rfl
        · exact h2
    · rw [put_size]; exact I.tsize
    · rw [put_defers]; exact I.defers
  | true =>
    simp only [if_true]
    obtain ⟨hop, hR, hW⟩ := hgood.1 he
    -- the heap, as operation i sees it
    have hf : ∀ b, b ∈ (fpL it.s.env o).1 ∨ b ∈ (fpL it.s.env o).2 → hs (fun j => listed.getD j false) 0 st s0.heap.live b = it.s.heap.live b := fun b hb => by
      rw [hheap]
      refine hs_congr rfl fun j o' it' hj hej hlk => ?_
      rw [Nat.zero_add]
      by_cases hji : j = i
      · subst hji; rw [hLi]; simp
      · refine htouch he b ?_ j o' it' hj hej (hkey j o' it' b hj hej hlk) hji
        rw [hR, hW]
        rcases hb with hb | hb
        · exact .inl hb
        · exact .inr (List.mem_append_left _ hb)
    have hns : ∀ (k : Nat) (o' : Oper) (it' : It), st[k]? = some (o', it') → it'.e = true → it'.s.next = nsAt k st s0.next ∧ it'.s.next ≤ it'.n := fun k o' it' h1 h2 => by
      obtain ⟨_, _, _, h3⟩ := trace_at htr k o' it' h1
      obtain ⟨⟨hk, _⟩, _⟩ := hgoodj k o' it' h1 h2
      exact ⟨h3, by omega⟩
    have hn0 : s0.next ≤ it.s.next := by
      have := nsAt_le (st := st) (s0 := s0) hns i 0 (by omega)
      rw [Nat.zero_add] at this
      rw [hnext]
      have e0 : nsAt 0 st s0.next = s0.next := by cases st <;> rfl
      omega
    have hfree : ∀ b, it.s.next ≤ b → b < it.n → η b = none := fun b hb1 hb2 => by
      cases hη : η b with
      | none => rfl
      | some p =>
        rcases I3 b (by rw [hη]; simp) with h | ⟨j, o', it', h1, h2, h3, h4, h5⟩
        · omega
        · exfalso
          have hne : j ≠ i := fun e => by subst e; rw [hLi] at h2; cases h2
          have hjl : j < st.length := (List.getElem?_eq_some_iff.1 h1).1
          have hilst : i < st.length := by omega
          rcases Nat.lt_or_gt_of_ne hne with hlt | hgt
          · have h6 := nsAt_le (st := st) (s0 := s0) hns (i - (j + 1)) (j + 1) (by omega)
            rw [show j + 1 + (i - (j + 1)) = i by omega, nsAt_succ h1, if_pos h3] at h6
            omega
          · have h6 := nsAt_le (st := st) (s0 := s0) hns (j - (i + 1)) (i + 1) (by omega)
            rw [show i + 1 + (j - (i + 1)) = j by omega, nsAt_succ hit, if_pos he] at h6
            have := (hns j o' it' h1 h3).1
            omega
    obtain ⟨hgoes, hle⟩ := opD_sound hc hs' hm hdt (n' := it.n) (u := it.u) (v := it.v) hop hopd I2 hf (fun h => hfree _ (Nat.le_refl _) h)
    refine .inl (hgoes.wp fun x w' ⟨η', k1, k2, k3, k4, k5, k6, k7⟩ => ?_)
    have hhs : hs (fun j => (listed.setIfInBounds i true).getD j false) 0 st s0.heap.live = hupd (hs (fun j => listed.getD j false) 0 st s0.heap.live) it.u := funext fun b => by
      cases hl : look it.u b with
      | none =>
        have : hupd (hs (fun j => listed.getD j false) 0 st s0.heap.live) it.u b = hs (fun j => listed.getD j false) 0 st s0.heap.live b := by simp [hupd, hl]
        rw [this]
        refine hs_congr rfl fun j o' it' hj hej hlk => ?_
        rw [Nat.zero_add, getD_set_listed hil, if_neg]
        rintro rfl
        rw [hit] at hj; cases hj
        exact hlk hl
      | some y =>
        have : hupd (hs (fun j => listed.getD j false) 0 st s0.heap.live) it.u b = y := by simp [hupd, hl]
        rw [this]
        refine hs_last (k := i) hit he (by rw [Nat.zero_add, getD_set_listed hil, if_pos rfl]) hl fun j o' it' hlt hj hej hL => ?_
        cases hlk : look it'.u b with
        | none => rfl
        | some y' =>
          exfalso
          rw [Nat.zero_add, getD_set_listed hil, if_neg (by omega)] at hL
          have hbW := hkey i o it b hit he (by rw [hl]; simp)
          have := htouch he b (.inr hbW) j o' it' hj hej (hkey j o' it' b hj hej (by rw [hlk]; simp)) (by omega)
          rw [hL] at this
          simp [Nat.not_lt_of_gt hlt] at this
    refine ⟨by simpa using I.size, hclosed', ⟨η', fun t v ht => ?_, by rw [hhs]; exact k4, fun b hb => ?_, fun b hb => ?_, by rw [hhs]; exact I5.trans k5 I6.size, I6.trans k6, fun c hc => (k7 c hc).trans (I7 c hc)⟩, ?_, ?_⟩
    · rw [hhs]
      by_cases hd : o.dst = some t
      · rw [heseq t hd] at ht
        cases ht
        refine ⟨x, by rw [hd]; exact put_self (Nat.lt_of_lt_of_le (hdsto t hd) I.tsize), ?_⟩
        simp only [It.val, he, if_true]
        exact k3
      · rw [hesne t hd] at ht
        obtain ⟨y, h1, h2⟩ := I1 t v ht
        exact ⟨y, by rw [put_ne hd]; exact h1, (h2.kept k5).ext _ k1⟩
    · by_cases hin : it.s.next ≤ b ∧ b < it.n
      · exact .inr ⟨i, o, it, hit, by rw [getD_set_listed hil, if_pos rfl], he, hin⟩
      · rw [k2 b hin] at hb
        rcases I3 b hb with h | ⟨j, o', it', h1, h2, h3⟩
        · exact .inl h
        · refine .inr ⟨j, o', it', h1, ?_, h3⟩
          rw [getD_set_listed hil]; split
          · rfl
          · exact h2
    · rw [k2 b (by omega)]; exact I4 b hb
    · rw [put_size]; exact I.tsize
    · rw [put_defers]; exact I.defers
end
end Go.Ev
