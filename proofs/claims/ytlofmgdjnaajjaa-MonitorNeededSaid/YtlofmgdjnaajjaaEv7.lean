/- Own text: moves, addresses, loads, stores. -/
import Derived.Test.YtlofmgdjnaajjaaEv6
import Derived.Laws.CopyRow
namespace Go.Ev
open Go Go.RowKit
set_option linter.unusedVariables false
set_option linter.unusedSimpArgs false
section
variable {P : Program} {O0 : Nat → Prop} {η : Eta} {H Ĥ : Nat → Option Blk} {w : World} {ρ : Operand → Value} {env : Env} {next : Nat} {o : Oper} {v : AV} {u : Heap} {n' : Nat}

theorem goes_pure {R : Value → World → Prop} {x : Value} (he : execOp ρ o = pure (.value x)) (h : R x w) : Goes P o ρ w R := by
  unfold Goes; rw [he]; simpa using h

theorem sound_move {x : Operand} {a : AV} (ho : o.op = .move x ∨ o.op = .assign x) (ha : VRel w (Own O0 η Ĥ) η a (ρ x)) (hH : HRel O0 η Ĥ w) : Goes P o ρ w (Res O0 η Ĥ next w a [] next) := by
  refine goes_pure (x := ρ x) ?_ (Res.same hH ha)
  rcases ho with ho | ho <;> simp only [execOp, ho]

theorem sound_pick {c x y : Operand} {t : Bool} {a : AV} (ho : o.op = .pick c x y) (hc : VRel w (Own O0 η Ĥ) η (.v (.bool t)) (ρ c)) (ha : VRel w (Own O0 η Ĥ) η a (if t = true then ρ x else ρ y)) (hH : HRel O0 η Ĥ w) : Goes P o ρ w (Res O0 η Ĥ next w a [] next) := by
  have e := vrel_v hc
  unfold Goes
  simp only [execOp, ho, e, asBool]
  cases t
  · simpa using Res.same hH ha
  · simpa using Res.same hH ha

theorem sound_load {t : TypeId} {x : Operand} {p : AV} (ho : o.op = .load t x) (hp : VRel w (Own O0 η Ĥ) η p (ρ x)) (hl : loadA P t p H = some v) (hH : HRel O0 η Ĥ w) (hf : ∀ b, b ∈ refsA (some p) → Ĥ b = H b) :
    Goes P o ρ w (Res O0 η Ĥ next w v [] next) := by
  obtain ⟨a, y, hx, hr, hv⟩ := loadA_run hl hp hH (fun b hb => by
    cases p <;> simp at hb
    subst hb
    exact hf _ (by simp [refsA]))
  refine goes_value (s := Instr.loadAt t (ρ x)) (x := y) (w' := w) (by simp only [execOp, ho]) ?_ (Res.same hH hv)
  rw [hx]
  simp [Instr.loadAt, Instr.sureAddr, hr]

theorem run_loadVar_row2 {c N sz i j : Nat} {T : TypeId} {cur : List Value} {f : List AV} {O : Nat → Prop} {t : TypeId} (hc : w.heap[c]? = some (.cells cur.toArray T (0, 0))) (hr : VRels w O noEta f ((cur.drop (i * sz)).take sz)) (h1 : ∀ u ∈ (cur.drop (i * sz)).take sz, u.oneCell' = true)
    (h : partA P t f j = some v) : ∃ y, (loadVar t ⟨c, i * sz + j, none⟩).run P w = .ok y w ∧ VRel w O noEta v y := by
  refine run_loadVar_cells (c := c) (base := i * sz) h hr h1 fun k u hk => ?_
  rw [cell_of_row w c (i * sz + k) _ T _ hc]
  rw [List.getElem?_take] at hk
  split at hk
  · rw [List.getElem?_drop] at hk; simpa using hk
  · cases hk

theorem sound_loadPe {t : TypeId} {x : Operand} {sz b i j z n : Nat} {f : Nat → List AV} (ho : o.op = .load t x) (hp : VRel w (Own O0 η Ĥ) η (.pe sz b i j) (ρ x)) (hb : H b = some (.arr z n f)) (hz : Nat.beq z sz = true) (hl : partA P t (f i) j = some v) (hi : i < n) (hH : HRel O0 η Ĥ w) (hf : Ĥ b = H b) :
    Goes P o ρ w (Res O0 η Ĥ next w v [] next) := by
  have hz' := Nat.eq_of_beq_eq_true hz
  subst hz'
  generalize hxv : ρ x = xv at hp
  cases hp with
  | pe _ _ _ _ _ c N he =>
  obtain ⟨h2, h3⟩ := hH.real (hf.trans hb) he
  obtain ⟨cur, T, g1, g2, g3, g4, g5⟩ := h3
  obtain ⟨k1, k2, k3⟩ := g5 i hi
  obtain ⟨y, hy, hv⟩ := run_loadVar_row2 (N := N) (c := c) g1 k2 k3 hl
  refine goes_value (s := Instr.loadAt t (ρ x)) (x := y) (w' := w) (by simp only [execOp, ho]) ?_ (Res.same hH (hv.ext η (fun b c N hb => by cases hb)))
  rw [hxv]
  simp [Instr.loadAt, Instr.sureAddr, hy]

/-! ### stores -/
theorem setAt_rel {O : Nat → Prop} {l vs : List AV} {xs ys : List Value} (off : Nat) (h : VRels w O η l xs) (hv : VRels w O η vs ys) : VRels w O η (setAt l off vs) (xs.take off ++ (ys ++ xs.drop (off + ys.length))) := by
  unfold setAt
  rw [hv.length]
  exact (h.take off).append (hv.append (h.drop _))

theorem take_one {xs ys : List Value} (off n : Nat) (h1 : ∀ u ∈ xs, u.oneCell' = true) (h2 : ∀ u ∈ ys, u.oneCell' = true) : ∀ u ∈ xs.take off ++ (ys ++ xs.drop n), u.oneCell' = true := by
  intro u hu
  rcases List.mem_append.1 hu with h | h
  · exact h1 u (List.mem_of_mem_take h)
  · rcases List.mem_append.1 h with h | h
    · exact h2 u h
    · exact h1 u (List.mem_of_mem_drop h)

theorem storeVar_run {t : TypeId} {c off n : Nat} {cur : List Value} {T : TypeId} {x : Value} (hg : w.heap[c]? = some (.cells cur.toArray T (0, 0))) (hs : sizeT P t = some n) (hn : x.cells.size = n) (hle : off + n ≤ cur.length) (h1 : ∀ u ∈ x.cells.toList, u.oneCell' = true) :
    (storeVar t ⟨c, off, none⟩ x).run P w = .ok () (w.setRow c (cur.take off ++ (x.cells.toList ++ cur.drop (off + n))).toArray) := by
  have hr := run_storeCells_at P c off T x.cells.toList 0 cur.toArray w hg (by simp [hn]; omega) h1
  unfold storeVar
  simp only [Sem.run_bind, run_sizeOf hs, Result.andThen_ok, hn, ne_eq, not_true_eq_false, if_false, Sem.run_ite]
  simp only [Nat.add_zero, Array.length_toList, hn] at hr
  rw [hr]
  simp [List.append_assoc]

theorem setRow_low (w : World) (c : Nat) (cs : Array Value) : Below 0 w (w.setRow c cs) := ⟨rfl, rfl, rfl, by simp, fun k hk => absurd hk (Nat.not_lt_zero k)⟩

theorem sound_store {t : TypeId} {x y : Operand} {b off n : Nat} {a : AV} {l : List AV} (ho : o.op = .store t x y) (hp : VRel w (Own O0 η Ĥ) η (.ptr b off) (ρ x)) (ha : VRel w (Own O0 η Ĥ) η a (ρ y)) (hs : sizeT P t = some n) (hb : Ĥ b = some (.cells l))
    (hn : Nat.beq a.cells.length n = true) (hle : Nat.ble (off + n) l.length = true) (h1 : aOnes a.cells = true) (hH : HRel O0 η Ĥ w) :
    Goes P o ρ w (Res O0 η Ĥ next w (.v undef) [(b, some (.cells (setAt l off a.cells)))] next) := by
  have hn' := Nat.eq_of_beq_eq_true hn
  have hle' := Nat.le_of_ble_eq_true hle
  generalize hxv : ρ x = xv at hp
  cases hp with
  | ptr _ _ _ c N he =>
  obtain ⟨h3, h4⟩ := hH.real hb he
  obtain ⟨cur, T, g1, g2, g3, g4⟩ := blk_cells (k := .cells l) h4
  obtain ⟨k1, k2⟩ := cells_rel ha h1
  have hsz : (ρ y).cells.size = n := by have := k1.length; simp at this; omega
  have hr := storeVar_run (P := P) (off := off) g1 hs hsz (by have := g3.length; omega) k2
  refine goes_skip (s := Instr.storeAt t (ρ x) (ρ y)) (w' := _) (by simp only [execOp, ho]) (by rw [hxv]; simp [Instr.storeAt, Instr.sureAddr, hr]; rfl) ?_
  obtain ⟨r1, r2⟩ := hH.write (w' := w.setRow c (cur.take off ++ ((ρ y).cells.toList ++ cur.drop (off + n))).toArray) hb he (.cells (setAt l off a.cells)) (by simp) (fun z hz => setRow_other w c z _ hz) (fun hk =>
    ⟨_, T, setRow_heap w c _ _ T _ g1, by have := k1.length; simp at this ⊢; have := g3.length; omega, by
      have := setAt_rel off (g3.kept hk) (k1.kept hk)
      rw [Array.length_toList, hsz] at this
      exact this, take_one off _ g4 k2⟩)
  exact ⟨η, EtaLe.refl η, fun _ _ => rfl, .v _ _, r1, r2, setRow_low _ _ _, fun z hz => setRow_other w c z _ fun e => h3 (e ▸ hz)⟩

theorem seg_set (cur ys : List Value) (i j k sz n : Nat) (hj : j + ys.length ≤ sz) (hle : i * sz + sz ≤ cur.length) :
    ((cur.take (i * sz + j) ++ (ys ++ cur.drop (i * sz + j + ys.length))).drop (k * sz)).take sz =
      if k = i then ((cur.drop (i * sz)).take sz).take j ++ (ys ++ ((cur.drop (i * sz)).take sz).drop (j + ys.length)) else (cur.drop (k * sz)).take sz := by
  apply List.ext_getElem?
  intro m
  split
  · rename_i hki
    subst hki
    simp only [List.getElem?_take, List.getElem?_drop, List.getElem?_append, List.length_take, List.length_drop]
    have hlen : min (k * sz + j) cur.length = k * sz + j := by omega
    have hlen2 : min j (min sz (cur.length - k * sz)) = j := by omega
    rw [hlen, hlen2]
    by_cases hm : m < sz
    · rw [if_pos hm]
      by_cases h1 : m < j
      · rw [if_pos (by omega), if_pos (by omega), if_pos h1, if_pos h1, if_pos (by omega)]
      · rw [if_neg (by omega), if_neg h1]
        by_cases h2 : m - j < ys.length
        · rw [if_pos (by omega), if_pos h2]; congr 1; omega
        · rw [if_neg (by omega), if_neg h2, if_pos (by omega)]; congr 1; omega
    · rw [if_neg hm]
      by_cases h1 : m < j
      · omega
      · rw [if_neg h1]
        by_cases h2 : m - j < ys.length
        · omega
        · rw [if_neg h2, if_neg (by omega)]
  · rename_i hki
    simp only [List.getElem?_take, List.getElem?_drop, List.getElem?_append, List.length_take, List.length_drop]
    have hlen : min (i * sz + j) cur.length = i * sz + j := by omega
    rw [hlen]
    by_cases hm : m < sz
    · rw [if_pos hm, if_pos hm]
      rcases Nat.lt_or_gt_of_ne hki with h | h
      · have hmul : k * sz + sz ≤ i * sz := by
          have := Nat.mul_le_mul_right sz (show k + 1 ≤ i by omega)
          rw [Nat.add_mul] at this; omega
        rw [if_pos (by omega), if_pos (by omega)]
      · have hmul : i * sz + sz ≤ k * sz := by
          have := Nat.mul_le_mul_right sz (show i + 1 ≤ k by omega)
          rw [Nat.add_mul] at this; omega
        rw [if_neg (by omega), if_neg (by omega)]; congr 1; omega
    · rw [if_neg hm, if_neg hm]

theorem sound_storePe {t : TypeId} {x y : Operand} {sz b i j m z n : Nat} {a : AV} {f : Nat → List AV} (ho : o.op = .store t x y) (hp : VRel w (Own O0 η Ĥ) η (.pe sz b i j) (ρ x)) (ha : VRel w (Own O0 η Ĥ) noEta a (ρ y)) (hs : sizeT P t = some n) (hb : Ĥ b = some (.arr z m f))
    (hz : Nat.beq z sz = true) (hn : Nat.beq a.cells.length n = true) (hle : Nat.ble (j + n) sz = true) (h1 : aOnes a.cells = true) (hi : i < m) (hH : HRel O0 η Ĥ w) :
    Goes P o ρ w (Res O0 η Ĥ next w (.v undef) [(b, some (.arr sz m (fun k => if k = i then setAt (f i) j a.cells else f k)))] next) := by
  have hz' := Nat.eq_of_beq_eq_true hz
  subst hz'
  have hn' := Nat.eq_of_beq_eq_true hn
  have hle' := Nat.le_of_ble_eq_true hle
  generalize hxv : ρ x = xv at hp
  cases hp with
  | pe _ _ _ _ _ c N he =>
  obtain ⟨h3, h4⟩ := hH.real hb he
  obtain ⟨cur, T, g1, g2, g3, g4, g5⟩ := h4
  obtain ⟨k1, k2⟩ := cells_rel ha h1
  have hsz : (ρ y).cells.size = n := by have := k1.length; simp at this; omega
  have hszl : (ρ y).cells.toList.length = n := by simpa using hsz
  have hiz : i * z + z ≤ cur.length := by
    have := Nat.mul_le_mul_right z (show i + 1 ≤ m by omega)
    rw [Nat.add_mul] at this; omega
  have hr := storeVar_run (P := P) (off := i * z + j) g1 hs hsz (by omega) k2
  refine goes_skip (s := Instr.storeAt t (ρ x) (ρ y)) (w' := _) (by simp only [execOp, ho]) (by rw [hxv]; simp [Instr.storeAt, Instr.sureAddr, hr]; rfl) ?_
  obtain ⟨r1, r2⟩ := hH.write (w' := w.setRow c (cur.take (i * z + j) ++ ((ρ y).cells.toList ++ cur.drop (i * z + j + n))).toArray) hb he (.arr z m (fun k => if k = i then setAt (f i) j a.cells else f k)) (by simp) (fun z' hz' => setRow_other w c z' _ hz') (fun hk =>
    ⟨_, T, setRow_heap w c _ _ T _ g1, by simp [hszl]; omega, g3, g4, fun k hk' => by
      have hseg := seg_set cur (ρ y).cells.toList i j k z n (by omega) hiz
      rw [hszl] at hseg
      rw [hseg]
      obtain ⟨q1, q2, q3⟩ := g5 k hk'
      by_cases hki : k = i
      · subst hki
        simp only [if_true]
        have hset := setAt_rel j (q2.kept hk) (k1.kept hk)
        rw [hszl] at hset
        refine ⟨by have := hset.length; rw [this]; simp [hszl]; omega, hset, take_one j _ q3 k2⟩
      · simp only [if_neg hki]
        exact ⟨q1, q2.kept hk, q3⟩⟩)
  exact ⟨η, EtaLe.refl η, fun _ _ => rfl, .v _ _, r1, r2, setRow_low _ _ _, fun z hz => setRow_other w c z _ fun e => h3 (e ▸ hz)⟩

/-! ### addresses -/
theorem sound_nil {x : Operand} {a : AV} (ho : o.op = .nilCheck x) (ha : VRel w (Own O0 η Ĥ) η a (ρ x)) (h : (∃ b off, a = .ptr b off) ∨ (∃ sz b i j, a = .pe sz b i j) ∨ (∃ sz n f i j, a = .ep sz n f i j) ∨ ∃ f p q, a = .fn (.func f) p q) (hH : HRel O0 η Ĥ w) :
    Goes P o ρ w (Res O0 η Ĥ next w a [] next) := by
  refine goes_pure (x := ρ x) ?_ (Res.same hH ha)
  simp only [execOp, ho]
  generalize ρ x = xv at ha
  rcases h with ⟨b, off, rfl⟩ | ⟨sz, b, i, j, rfl⟩ | ⟨sz, n, f, i, j, rfl⟩ | ⟨f, p, q, rfl⟩ <;> cases ha <;> rfl

theorem sound_makeFunc {f : Fn} {a c : Array Operand} {x y : List AV} (ho : o.op = .makeFunc f a c) (hx : VRels w (Own O0 η Ĥ) η x (a.toList.map ρ)) (hy : VRels w (Own O0 η Ĥ) η y (c.toList.map ρ)) (hH : HRel O0 η Ĥ w) :
    Goes P o ρ w (Res O0 η Ĥ next w (.fn f x y) [] next) := by
  refine goes_value (s := Instr.makeFunc f (a.map ρ) (c.map ρ)) (x := .func f (a.toList.map ρ).toArray (c.toList.map ρ).toArray) (w' := w) (by simp only [execOp, ho]) ?_ (Res.same hH (.fn η f x y _ _ hx hy))
  simp only [Instr.makeFunc, Sem.run_pure]
  congr 2 <;> (apply Array.ext'; simp)

theorem run_fieldPlace {ad : Addr} {f : Field} {n : Nat} (hs : sizeT P f.type = some (n + 1)) : (fieldPlace ad f).run P w = .ok (ad.add f.offset) w := by
  unfold fieldPlace
  simp [run_sizeOf hs]

theorem sound_fieldAddr {t : TypeId} {x : Operand} {i n : Nat} {fs : Array Field} {f : Field} {a r : AV} (ho : o.op = .fieldAddr t x i) (hu : P.underlying t = some (.struct fs)) (hf : fs[i]? = some f) (hs : sizeT P f.type = some (n + 1)) (ha : VRel w (Own O0 η Ĥ) η a (ρ x))
    (h : (∃ b off, a = .ptr b off ∧ r = .ptr b (off + f.offset)) ∨ (∃ sz b i j, a = .pe sz b i j ∧ r = .pe sz b i (j + f.offset)) ∨ (∃ sz m g i j, a = .ep sz m g i j ∧ r = .ep sz m g i (j + f.offset))) (hH : HRel O0 η Ĥ w) :
    Goes P o ρ w (Res O0 η Ĥ next w r [] next) := by
  have key : ∀ ad : Addr, ρ x = .pointer (some ad) → (Instr.fieldAt t (ρ x) i).run P w = .ok (.pointer (some (ad.add f.offset))) w := fun ad e => by
    rw [e]
    simp [Instr.fieldAt, run_underlying hu, hf, Instr.sureAddr, run_fieldPlace hs]
  have fin : ∀ ad : Addr, ρ x = .pointer (some ad) → VRel w (Own O0 η Ĥ) η r (.pointer (some (ad.add f.offset))) → Goes P o ρ w (Res O0 η Ĥ next w r [] next) := fun ad e hv =>
    goes_value (s := Instr.fieldAt t (ρ x) i) (by simp only [execOp, ho]) (key ad e) (Res.same hH hv)
  generalize hxv : ρ x = xv at ha
  rcases h with ⟨b, off, rfl, rfl⟩ | ⟨sz, b, i, j, rfl, rfl⟩ | ⟨sz, m, g, i, j, rfl, rfl⟩
  · cases ha with
    | ptr _ _ _ c N he => exact fin _ hxv (by rw [Addr.add_lit]; exact .ptr _ _ _ _ _ he)
  · cases ha with
    | pe _ _ _ _ _ c N he => exact fin _ hxv (by rw [Addr.add_lit, Nat.add_assoc]; exact .pe _ _ _ _ _ _ _ he)
  · cases ha with
    | ep _ _ _ _ _ _ c off h1 h2 h3 => exact fin _ hxv (by rw [Addr.add_lit, Nat.add_assoc]; exact .ep _ _ _ _ _ _ _ _ h1 h2 h3)

theorem sound_field {t : TypeId} {x : Operand} {i : Nat} {fs : Array Field} {f : Field} {cs : List AV} (ho : o.op = .field t x i) (hu : P.underlying t = some (.struct fs)) (hf : fs[i]? = some f) (ha : VRel w (Own O0 η Ĥ) η (.agg cs) (ρ x)) (hp : partA P f.type cs f.offset = some v) (hH : HRel O0 η Ĥ w) :
    Goes P o ρ w (Res O0 η Ĥ next w v [] next) := by
  obtain ⟨xs, hx, h1, h2⟩ := vrel_agg ha
  obtain ⟨y, hy, hv⟩ := partA_rel hp h1 h2
  refine goes_value (s := Instr.field t (ρ x) i) (by simp only [execOp, ho]) ?_ (Res.same hH hv)
  rw [hx]
  simp [Instr.field, run_underlying hu, hf, asAgg, hy]

theorem sound_extract {x : Operand} {i : Nat} {l : List AV} (ho : o.op = .extract x i) (ha : VRel w (Own O0 η Ĥ) η (.tup l) (ρ x)) (hi : l[i]? = some v) (hH : HRel O0 η Ĥ w) :
    Goes P o ρ w (Res O0 η Ĥ next w v [] next) := by
  generalize hxv : ρ x = xv at ha
  cases ha with
  | tup _ _ xs h =>
  obtain ⟨y, hy, hv⟩ := h.get i v hi
  refine goes_value (s := Instr.extract (ρ x) i) (x := y) (w' := w) (by simp only [execOp, ho]) ?_ (Res.same hH hv)
  rw [hxv]
  simp [Instr.extract, hy]

theorem sound_indexArr {t e : TypeId} {x i : Operand} {n sz : Nat} {k : IntKind} {q : Int} {a r : AV} (ho : o.op = .indexAddr t x i) (hu : P.underlying t = some (.array n e)) (hs : sizeT P e = some sz) (ha : VRel w (Own O0 η Ĥ) η a (ρ x)) (hi : VRel w (Own O0 η Ĥ) η (.v (.int k q)) (ρ i)) (h0 : 0 ≤ q) (h1 : q < (n : Int))
    (h : (∃ b off, a = .ptr b off ∧ r = .ptr b (off + q.toNat * sz)) ∨ (∃ z b i j, a = .pe z b i j ∧ r = .pe z b i (j + q.toNat * sz)) ∨ (∃ z m g i j, a = .ep z m g i j ∧ r = .ep z m g i (j + q.toNat * sz))) (hH : HRel O0 η Ĥ w) :
    Goes P o ρ w (Res O0 η Ĥ next w r [] next) := by
  have ei := vrel_v hi
  have fin : ∀ ad : Addr, ρ x = .pointer (some ad) → VRel w (Own O0 η Ĥ) η r (.pointer (some (ad.add (q.toNat * sz)))) → Goes P o ρ w (Res O0 η Ĥ next w r [] next) := fun ad e' hv => by
    refine goes_value (s := Instr.indexAt t (ρ x) (ρ i)) (by simp only [execOp, ho]) ?_ (Res.same hH hv)
    rw [e', ei]
    simp [Instr.indexAt, asIntOf, run_underlying hu, Instr.sureAddr, h0, h1, run_sizeOf hs]
  generalize hxv : ρ x = xv at ha
  rcases h with ⟨b, off, rfl, rfl⟩ | ⟨z, b, i, j, rfl, rfl⟩ | ⟨z, m, g, i, j, rfl, rfl⟩
  · cases ha with
    | ptr _ _ _ c N he => exact fin _ hxv (by rw [Addr.add_lit]; exact .ptr _ _ _ _ _ he)
  · cases ha with
    | pe _ _ _ _ _ c N he => exact fin _ hxv (by rw [Addr.add_lit, Nat.add_assoc]; exact .pe _ _ _ _ _ _ _ he)
  · cases ha with
    | ep _ _ _ _ _ _ c off h1 h2 h3 => exact fin _ hxv (by rw [Addr.add_lit, Nat.add_assoc]; exact .ep _ _ _ _ _ _ _ _ h1 h2 h3)

theorem index_slice_run {t e : TypeId} {n cap sz : Nat} {k : IntKind} {q : Int} {ad : Addr} (hu : P.underlying t = some (.slice e)) (hs : sizeT P e = some sz) (h0 : 0 ≤ q) (h1 : q < (n : Int)) :
    (Instr.indexAt t (.slice (some ad) n cap) (.int k q)).run P w = .ok (.pointer (some (ad.add (q.toNat * sz)))) w := by
  simp [Instr.indexAt, asIntOf, run_underlying hu, h0, h1, run_sizeOf hs]

theorem sound_indexRs {t e : TypeId} {x i : Operand} {n sz : Nat} {c : Option Nat} {f : Nat → List AV} {k : IntKind} {q : Int} (ho : o.op = .indexAddr t x i) (hu : P.underlying t = some (.slice e)) (hs : sizeT P e = some sz) (ha : VRel w (Own O0 η Ĥ) η (.rs sz n c f) (ρ x)) (hi : VRel w (Own O0 η Ĥ) η (.v (.int k q)) (ρ i)) (h0 : 0 ≤ q) (h1 : q < (n : Int)) (hH : HRel O0 η Ĥ w) :
    Goes P o ρ w (Res O0 η Ĥ next w (.ep sz n f q.toNat 0) [] next) := by
  have ei := vrel_v hi
  generalize hxv : ρ x = xv at ha
  cases ha with
  | rsNil => simp at h1; omega
  | rs _ _ _ _ _ c off cap g1 g2 g3 g4 =>
  refine goes_value (s := Instr.indexAt t (ρ x) (ρ i)) (by simp only [execOp, ho]) (by rw [hxv, ei]; exact index_slice_run hu hs h0 h1) (Res.same hH ?_)
  rw [Addr.add_lit]
  exact .ep _ _ _ _ q.toNat 0 _ _ (by omega) g3 g4

theorem sound_indexSl {t e : TypeId} {x i : Operand} {n sz b of : Nat} {k : IntKind} {q : Int} {r : AV} (ho : o.op = .indexAddr t x i) (hu : P.underlying t = some (.slice e)) (hs : sizeT P e = some sz) (ha : VRel w (Own O0 η Ĥ) η (.sl sz b of n) (ρ x)) (hi : VRel w (Own O0 η Ĥ) η (.v (.int k q)) (ρ i)) (h0 : 0 ≤ q) (h1 : q < (n : Int))
    (hr : r = .pe sz b (of + q.toNat) 0 ∨ r = .ptr b ((of + q.toNat) * sz)) (hH : HRel O0 η Ĥ w) :
    Goes P o ρ w (Res O0 η Ĥ next w r [] next) := by
  have ei := vrel_v hi
  generalize hxv : ρ x = xv at ha
  cases ha with
  | slN => simp at h1; omega
  | sl _ _ _ _ _ c N cap g1 g2 g3 g4 =>
  refine goes_value (s := Instr.indexAt t (ρ x) (ρ i)) (by simp only [execOp, ho]) (by rw [hxv, ei]; exact index_slice_run hu hs h0 h1) (Res.same hH ?_)
  rw [Addr.add_lit, ← Nat.add_mul]
  rcases hr with rfl | rfl
  · exact .pe _ _ _ _ 0 _ _ g1
  · exact .ptr _ _ _ _ _ g1

theorem sound_indexA {t e : TypeId} {x i : Operand} {n sz : Nat} {k : IntKind} {q : Int} {cs : List AV} (ho : o.op = .index t x i) (hu : P.underlying t = some (.array n e)) (hs : sizeT P e = some sz) (ha : VRel w (Own O0 η Ĥ) η (.agg cs) (ρ x)) (hi : VRel w (Own O0 η Ĥ) η (.v (.int k q)) (ρ i)) (hp : partA P e cs (q.toNat * sz) = some v) (h0 : 0 ≤ q) (h1 : q < (n : Int)) (hH : HRel O0 η Ĥ w) :
    Goes P o ρ w (Res O0 η Ĥ next w v [] next) := by
  have ei := vrel_v hi
  obtain ⟨xs, hx, g1, g2⟩ := vrel_agg ha
  obtain ⟨y, hy, hv⟩ := partA_rel hp g1 g2
  refine goes_value (s := Instr.index t (ρ x) (ρ i)) (by simp only [execOp, ho]) ?_ (Res.same hH hv)
  rw [hx, ei]
  simp [Instr.index, asIntOf, run_underlying hu, h0, h1, run_sizeOf hs, hy]

theorem sound_indexS {t : TypeId} {x i : Operand} {s : ByteArray} {k : IntKind} {q : Int} (ho : o.op = .index t x i) (hu : P.underlying t = some .string) (ha : VRel w (Own O0 η Ĥ) η (.v (.string s)) (ρ x)) (hi : VRel w (Own O0 η Ĥ) η (.v (.int k q)) (ρ i)) (h0 : 0 ≤ q) (h1 : q < (s.size : Int)) (hH : HRel O0 η Ĥ w) :
    Goes P o ρ w (Res O0 η Ĥ next w (.v (.int .u8 ((s.get! q.toNat).toNat : Int))) [] next) := by
  have ei := vrel_v hi
  have ex := vrel_v ha
  refine goes_value (s := Instr.index t (ρ x) (ρ i)) (x := .int .u8 ((s.get! q.toNat).toNat : Int)) (w' := w) (by simp only [execOp, ho]) ?_ (res_v hH _)
  rw [ei, ex]
  have hlt : q.toNat < s.size := by omega
  have hg : s[q.toNat]? = some (s.get! q.toNat) := by
    rw [getElem?_pos s q.toNat hlt]
    congr 1
    obtain ⟨d⟩ := s
    exact (getElem!_pos d q.toNat hlt).symm
  simp [Instr.index, asIntOf, run_underlying hu, h0, hg]
end
end Go.Ev
