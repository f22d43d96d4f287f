/- Own text: regions, code, functions come out as the evaluator says. -/
import Derived.Test.YtlofmgdjnaajjaaEv23
namespace Go.Ev
open Go Go.RowKit
set_option linter.unusedVariables false
set_option linter.unusedSimpArgs false

def remL (L : Nat → Bool) : Nat → Nat
  | 0 => 0
  | n + 1 => remL L n + (if L n = true then 0 else 1)
theorem remL_le (L : Nat → Bool) : ∀ n, remL L n ≤ n
  | 0 => Nat.le_refl _
  | n + 1 => by have := remL_le L n; simp only [remL]; split <;> omega
theorem remL_zero {L : Nat → Bool} : ∀ {n : Nat}, remL L n = 0 → ∀ i, i < n → L i = true
  | 0, _, i, hi => by omega
  | n + 1, h, i, hi => by
    simp only [remL] at h
    have h1 : remL L n = 0 := by omega
    by_cases e : i = n
    · subst e
      cases hL : L i with
      | true => rfl
      | false => rw [hL] at h; simp at h
    · exact remL_zero h1 i (by omega)
theorem remL_congr {L L' : Nat → Bool} : ∀ {n : Nat}, (∀ j, j < n → L j = L' j) → remL L n = remL L' n
  | 0, _ => rfl
  | n + 1, h => by simp only [remL]; rw [remL_congr fun j hj => h j (by omega), h n (by omega)]
theorem remL_set {L L' : Nat → Bool} {i : Nat} (h0 : L i = false) (h1 : L' i = true) (hj : ∀ j, j ≠ i → L j = L' j) : ∀ {n : Nat}, i < n → remL L n = remL L' n + 1
  | 0, h => by omega
  | n + 1, h => by
    simp only [remL]
    by_cases e : i = n
    · subst e
      rw [remL_congr fun j hjj => hj j (by omega), h0, h1]
      simp
    · rw [remL_set h0 h1 hj (n := n) (by omega), hj n (Ne.symm e)]
      omega

section
variable {P : Program} {callE : CallE} {cfg : Cfg} {fid : FuncId} {ops : Array Oper} {A : Anc}

theorem Rel.drew {η : Eta} {s : St} {a : Act} {w : World} (R : Rel A η s a w) : Rel A η s a w.drew := by
  have hb : Below w.heap.size w w.drew := (Below.refl _ w).drew
  have := R.put (dst := none) (v := .v undef) (x := undef) (h' := s.heap) (n' := s.next) (fun d hd => by cases hd) (EtaLe.refl η) (fun b hb => rfl) R.dom (Nat.le_refl _) (.v _ _) (R.h.low hb) (Kept.low hb fun c hc => .inl hc) (hb.mono (Nat.zero_le _)) (fun c hc => rfl)
  exact this

theorem inv_end {st : Steps'} {s0 sN : St} {η0 : Eta} {listed : Array Bool} {a : Act} {w : World} (hdt : DetC callE) (R0 : ∀ b, b < A.m → η0 b = A.η b) (hm0 : A.m ≤ s0.next) (hst : st.map Prod.fst = ops.toList) (htr : Trace (GoodD P callE cfg fid ops) (befs ops.toList) 0 [] s0 st sN)
    (I : Inv ops A st s0 η0 listed a w) (hall : ∀ i, i < ops.size → listed.getD i false = true) : ∃ η, Rel A η sN a w := by
  obtain ⟨e1, e2, e3⟩ := trace_end htr
  obtain ⟨η, I1, I2, I3, I4, I5, I6, I7⟩ := I.ex
  have hlen : st.length = ops.size := by have := congrArg List.length hst; simpa using this
  have hlt : ∀ (j : Nat) (p : Oper × It), st[j]? = some p → listed.getD j false = true := fun j p h => hall j (by have := (List.getElem?_eq_some_iff.1 h).1; omega)
  have hhs : hs (fun j => listed.getD j false) 0 st s0.heap.live = sN.heap.live := by
    rw [e2]
    exact funext fun b => hs_congr rfl fun j o it hj _ _ => by rw [Nat.zero_add]; exact hlt j _ hj
  rw [hhs] at I1 I2 I5
  have hgoodj : ∀ (k : Nat) (o' : Oper) (it' : It), st[k]? = some (o', it') → it'.e = true → it'.s.next = nsAt k st s0.next ∧ it'.s.next ≤ it'.n := fun k o' it' h1 h2 => by
    obtain ⟨hg, _, _, h3⟩ := trace_at htr k o' it' h1
    obtain ⟨hk, _⟩ := opD_keys hdt (hg.1 h2).1
    exact ⟨h3, by omega⟩
  have hn0 : s0.next ≤ sN.next := by
    have := nsAt_le (st := st) (s0 := s0) hgoodj st.length 0 (by omega)
    rw [Nat.zero_add] at this
    have e0 : nsAt 0 st s0.next = s0.next := by cases st <;> rfl
    omega
  refine ⟨η, I2, fun t v ht => ?_, fun b hb => ?_, Nat.le_trans hm0 hn0, fun b hb => by rw [I4 b (by omega)]; exact R0 b hb, I5, I6, I7, I.tsize, I.defers⟩
  · refine I1 t v ?_
    rw [e1] at ht
    rw [← ht]
    exact es_congr rfl fun j o it hj _ => by rw [Nat.zero_add]; exact hlt j _ hj
  · cases hη : η b with
    | none => rfl
    | some p =>
      exfalso
      rcases I3 b (by rw [hη]; simp) with h | ⟨j, o', it', h1, h2, h3, h4, h5⟩
      · omega
      · have hjl : j < st.length := (List.getElem?_eq_some_iff.1 h1).1
        have h6 := nsAt_le (st := st) (s0 := s0) hgoodj (st.length - (j + 1)) (j + 1) (by omega)
        rw [show j + 1 + (st.length - (j + 1)) = st.length by omega, nsAt_succ h1, if_pos h3] at h6
        omega

theorem all_of_ready {bs : List Nat} (hok : eachOk ops bs 0 ops.toList = true) {listed : Array Bool} (hsz : listed.size = ops.size) (h : Region.ready .any ops listed = []) : ∀ i, i < ops.size → listed.getD i false = true := by
  intro i
  induction i using Nat.strongRecOn with
  | _ i ih =>
    intro hi
    cases hL : listed.getD i false with
    | true => rfl
    | false =>
      exfalso
      have ho : ops[i]? = some (ops[i]'hi) := Array.getElem?_eq_getElem hi
      have hol : ops.toList[i]? = some (ops[i]'hi) := by rw [Array.getElem?_toList]; exact ho
      obtain ⟨_, _, ha⟩ := eachOk_spec hok i (ops[i]'hi) hol
      have hmem : i ∈ Region.ready .any ops listed := mem_ready.2 ⟨by
        simp only [Array.getD_eq_getD_getElem?] at hL ⊢
        rw [Array.getElem?_eq_getElem (by omega)] at hL ⊢
        simpa using hL, _, ho, fun e he hb => ih e.on (by have := afterOk_spec ha e (by simpa using he) hb; omega) (by have := afterOk_spec ha e (by simpa using he) hb; omega)⟩
      rw [h] at hmem
      cases hmem

theorem regD_sound (hc : CfgOk P cfg) (hs' : SoundC P callE) (hm : MonoC callE) (hdt : DetC callE) (hmix : P.follows .mixedOrders = true) (hok : drawOk ops = true) (hdst : dstUnder A.N ops.toList = true) {K : St → Prop} {Q : Exit → Act → World → Prop} {id : Nat}
    (hQ : ∀ s η a w, K s → Rel A η s a w → Q .normal a w) {s : St} {η : Eta} {a : Act} {w : World} (R : Rel A η s a w) (h : regD P callE cfg fid ops (befs ops.toList) ops.toList 0 [] s K) : (Code.region id ops true).wp P Q a w := by
  obtain ⟨its, sN, hl, htr, hK⟩ := regD_trace hm hdt h
  have hst : (ops.toList.zip its).map Prod.fst = ops.toList := by
    rw [List.map_fst_zip]
    omega
  refine wp_region_any hmix ?_
  have R' := R.drew
  have hstart : Inv ops A (ops.toList.zip its) s η (Array.replicate ops.size false) a w.drew := by
    have hL : ∀ j, (Array.replicate ops.size false).getD j false = false := fun j => by
      simp only [Array.getD_eq_getD_getElem?, Array.getElem?_replicate]
      split <;> rfl
    have hhs : hs (fun j => (Array.replicate ops.size false).getD j false) 0 (ops.toList.zip its) s.heap.live = s.heap.live := hs_none fun j => hL _
    have hes : es (fun j => (Array.replicate ops.size false).getD j false) 0 (ops.toList.zip its) (look s.env) = look s.env := es_none fun j => hL _
    refine ⟨by simp, fun j hj => (by rw [hL j] at hj; cases hj), ⟨η, ?_, ?_, ?_, fun _ _ => rfl, ?_, R'.low, R'.keep0⟩, R'.size, R'.defers⟩
    · rw [hhs, hes]; exact R'.env
    · rw [hhs]; exact R'.h
    · exact fun b hb => .inl (Nat.lt_of_not_le fun hle => hb (R'.dom b hle))
    · rw [hhs]; exact R'.kept
  have hok' := and_split (show (dstOk [] ops.toList && eachOk ops (befs ops.toList) 0 ops.toList) = true from hok)
  have fin : ∀ listed a w, Inv ops A (ops.toList.zip its) s η listed a w → Region.ready .any ops listed = [] → Q .normal a w := fun listed a w I hr => by
    obtain ⟨η', Rn⟩ := inv_end hdt R.eta R.m hst htr I (all_of_ready hok'.2 I.size hr)
    exact hQ sN η' a w hK Rn
  have main : ∀ (fuel : Nat) (listed : Array Bool) (a : Act) (w : World), remL (fun j => listed.getD j false) ops.size ≤ fuel → Inv ops A (ops.toList.zip its) s η listed a w → wpAny P .any ops Q fuel listed a w := by
    intro fuel
    induction fuel with
    | zero =>
      intro listed a w hr I
      have hall := remL_zero (n := ops.size) (L := fun j => listed.getD j false) (by omega)
      have hr0 : Region.ready .any ops listed = [] := by
        cases hrr : Region.ready .any ops listed with
        | nil => rfl
        | cons i r =>
          exfalso
          have hi : i ∈ Region.ready .any ops listed := by rw [hrr]; exact List.mem_cons_self
          obtain ⟨hun, o, ho, _⟩ := mem_ready.1 hi
          have hisz : i < ops.size := (Array.getElem?_eq_some_iff.1 ho).1
          have := hall i hisz
          simp only [Array.getD_eq_getD_getElem?] at hun this
          rw [Array.getElem?_eq_getElem (by rw [I.size]; exact hisz)] at hun this
          simp at hun this
          rw [hun] at this
          cases this
      exact ⟨hr0, fin listed a w I hr0⟩
    | succ fuel ih =>
      intro listed a w hr I
      refine ⟨fun hr0 => fin listed a w I hr0, fun i hi => ?_⟩
      refine wpOp_mono (fun a' w' I' => ih _ a' w' ?_ I') (inv_step hc hs' hm hdt hst htr hok hdst I hi)
      obtain ⟨hun, o, ho, _⟩ := mem_ready.1 hi
      have hisz : i < ops.size := (Array.getElem?_eq_some_iff.1 ho).1
      have hil : i < listed.size := by rw [I.size]; exact hisz
      have hLi : listed.getD i false = false := by
        simp only [Array.getD_eq_getD_getElem?] at hun ⊢
        rw [Array.getElem?_eq_getElem hil] at hun ⊢
        simpa using hun
      have := remL_set (L := fun j => listed.getD j false) (L' := fun j => (listed.setIfInBounds i true).getD j false) (i := i) hLi (by rw [getD_set_listed hil, if_pos rfl]) (fun j hj => by rw [getD_set_listed hil, if_neg hj]) hisz
      omega
  exact main ops.size _ a _ (remL_le _ _) hstart
end
end Go.Ev
