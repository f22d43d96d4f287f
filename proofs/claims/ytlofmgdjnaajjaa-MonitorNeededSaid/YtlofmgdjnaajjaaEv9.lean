/- Own text: made slices. -/
import Derived.Test.YtlofmgdjnaajjaaEv8
import Derived.Laws.OwnMore
namespace Go.Ev
open Go Go.RowKit
set_option linter.unusedVariables false
set_option linter.unusedSimpArgs false
section
variable {P : Program} {O0 : Nat → Prop} {η : Eta} {H Ĥ : Nat → Option Blk} {w : World} {ρ : Operand → Value} {env : Env} {next : Nat} {o : Oper} {v : AV} {u : Heap} {n' : Nat}

theorem splice (A X Y : List Value) (a sz b : Nat) (ha : a ≤ A.length) (hX : X.length = sz) :
    (A.take a ++ (X ++ A.drop (a + sz))).take (a + sz) ++ (Y ++ (A.take a ++ (X ++ A.drop (a + sz))).drop (a + sz + b)) = A.take a ++ ((X ++ Y) ++ A.drop (a + sz + b)) := by
  have h1 : (A.take a ++ X).length = a + sz := by simp [hX]; omega
  rw [← List.append_assoc (A.take a) X, List.take_left' h1, ← List.drop_drop, List.drop_left' h1, List.drop_drop]
  simp [List.append_assoc]

theorem elemsA_fill {O : Nat → Prop} {sz : Nat} : ∀ {l : List (Nat × AV)} {m : List (Nat × Value)} {k : Nat} {es : List (List AV)} {xs : Array Value}, PRel w O η l m → elemsA sz k l = some es → (k + l.length) * sz ≤ xs.size →
    ∃ (xs' : Array Value) (ys : List Value), Instr.fill (fun i => some (i * sz, sz)) xs m = some xs' ∧ xs'.toList = xs.toList.take (k * sz) ++ (ys ++ xs.toList.drop ((k + l.length) * sz)) ∧ ys.length = l.length * sz ∧ VRels w O η es.flatten ys ∧ (∀ u ∈ ys, u.oneCell' = true) ∧ es.length = l.length ∧ ∀ (i : Nat) (e : List AV), es[i]? = some e → e.length = sz
  | _, _, k, es, xs, .nil, h, hx => by
    simp only [elemsA, Option.some.injEq] at h
    subst h
    exact ⟨xs, [], rfl, by simp, by simp, .nil _, by simp, rfl, by simp⟩
  | _, _, k, es, xs, .cons i a y l m ha hl, h, hx => by
    simp only [elemsA] at h
    split at h
    · rename_i l' hi hn hone hl'
      simp only [Option.some.injEq] at h
      subst h
      have hi' := Nat.eq_of_beq_eq_true hi
      subst hi'
      have hn' := Nat.eq_of_beq_eq_true hn
      obtain ⟨k1, k2⟩ := cells_rel ha hone
      have hsz : y.cells.size = sz := by have := k1.length; simp at this; omega
      have hmul : (i + 1) * sz + l.length * sz = (i + (l.length + 1)) * sz := by rw [← Nat.add_mul]; congr 1; omega
      have hmul2 : (i + 1) * sz = i * sz + sz := by rw [Nat.add_mul]; omega
      simp only [List.length_cons] at hx
      have hfit : i * sz + y.cells.size ≤ xs.size := by omega
      have hnew := fill_one (i * sz) y.cells xs hfit
      obtain ⟨B, hB⟩ : ∃ B, B = y.cells.zipIdx.foldl (fun cs (c, j) => cs.setIfInBounds (i * sz + j) c) xs := ⟨_, rfl⟩
      rw [← hB] at hnew
      have hBs : B.size = xs.size := by
        have := congrArg List.length hnew
        simp only [Array.length_toList, List.length_append, List.length_take, List.length_drop] at this
        omega
      obtain ⟨xs', ys, g1, g2, g3, g4, g5, g6, g7⟩ := elemsA_fill (xs := B) hl hl' (by
        rw [hBs, Nat.add_mul]
        omega)
      refine ⟨xs', y.cells.toList ++ ys, ?_, ?_, ?_, ?_, ?_, by simp [g6], ?_⟩
      · simp only [Instr.fill]
        rw [if_neg (by simp [hsz]; omega), ← hB]
        exact g1
      · have e1 : (i + 1 + l.length) * sz = i * sz + sz + l.length * sz := by rw [Nat.add_mul (i + 1)]; omega
        have e2 : (i + ((i, a) :: l).length) * sz = i * sz + sz + l.length * sz := by simp only [List.length_cons]; omega
        rw [g2, hnew, e1, e2, hmul2, hsz]
        exact splice xs.toList y.cells.toList ys (i * sz) sz (l.length * sz) (by simp; omega) (by simpa using hsz)
      · simp only [List.length_append, Array.length_toList, List.length_cons, hsz, g3, Nat.add_mul]
        omega
      · simpa using k1.append g4
      · intro u hu
        rcases List.mem_append.1 hu with hu | hu
        · exact k2 u hu
        · exact g5 u hu
      · intro j e hj
        cases j with
        | zero => simp at hj; subst hj; exact hn'
        | succ j => exact g7 j e (by simpa using hj)
    · cases h

/-- A segment of the cells of elements that stand one behind the other. -/
theorem seg_rel {O : Nat → Prop} {sz : Nat} : ∀ {es : List (List AV)} {ys : List Value}, VRels w O η es.flatten ys → (∀ (i : Nat) (e : List AV), es[i]? = some e → e.length = sz) → ∀ i, i < es.length → (es.getD i []).length = sz ∧ VRels w O η (es.getD i []) ((ys.drop (i * sz)).take sz)
  | [], _, _, _, i, hi => by simp at hi
  | e :: r, ys, h, hl, 0, hi => by
    have hle := hl 0 e (by simp)
    refine ⟨by simpa using hle, ?_⟩
    have := (h.take sz)
    simp only [List.flatten_cons] at this
    rw [← hle, List.take_left] at this
    simpa [hle] using this
  | e :: r, ys, h, hl, i + 1, hi => by
    have hle := hl 0 e (by simp)
    have := (h.drop sz)
    simp only [List.flatten_cons] at this
    rw [← hle, List.drop_left] at this
    obtain ⟨g1, g2⟩ := seg_rel (sz := sz) this (fun i e' he => hl (i + 1) e' (by simpa using he)) i (by simpa using hi)
    refine ⟨by simpa using g1, ?_⟩
    rw [List.drop_drop, hle] at g2
    rw [show (i + 1) * sz = sz + i * sz by rw [Nat.add_mul]; omega]
    simpa using g2

theorem mem_seg {ys : List Value} {a b : Nat} {x : Value} (h : x ∈ (ys.drop a).take b) : x ∈ ys := List.mem_of_mem_drop (List.mem_of_mem_take h)

theorem own_lt (hH : HRel O0 η Ĥ w) {c : Nat} (h : Own O0 η Ĥ c) : c < w.heap.size := by
  rcases h with h | ⟨b, k, N, h1, h2⟩
  · exact hH.O0lt c h
  · exact hH.lt _ _ _ h2

/-- A new row that nobody owns. -/
theorem rs_new {hH : HRel O0 η Ĥ w} {sz n : Nat} {f : Nat → List AV} {ys : List Value} (T : TypeId) (k : Option Nat) (hk : ∀ m, k = some m → n = m) (hlen : ys.length = n * sz) (h : ∀ i, i < n → (f i).length = sz ∧ VRels w (Own O0 η Ĥ) noEta (f i) ((ys.drop (i * sz)).take sz)) (h1 : ∀ u ∈ ys, u.oneCell' = true) :
    Res O0 η Ĥ next w (.rs sz n k f) [] next (.slice (some ⟨w.heap.size, 0, none⟩) n n) (w.alloc (.cells ys.toArray T)) := by
  have hlow : Below w.heap.size w (w.alloc (.cells ys.toArray T)) := (Below.refl _ w).alloc (Nat.le_refl _) _
  have hkept : Kept (Own O0 η Ĥ) w (Own O0 η Ĥ) (w.alloc (.cells ys.toArray T)) := Kept.low hlow fun c hc => .inl hc
  refine ⟨η, EtaLe.refl η, fun _ _ => rfl, .rs _ _ _ _ _ _ _ _ (Nat.le_refl _) hk (fun i hi => (h i hi).1) fun i hi => ?_, hH.low hlow, hkept, hlow.mono (Nat.zero_le _), fun c hc => hlow.block c (hH.O0lt c hc)⟩
  refine row_of ((h i hi).2.kept hkept) (fun u hu => h1 u (mem_seg hu)) fun j u hj => ⟨?_, fun ho => by have := own_lt hH ho; omega⟩
  rw [cell_of_row _ _ _ _ _ _ (heap_alloc_new w (.cells ys.toArray T))]
  rw [List.getElem?_take] at hj
  split at hj
  · rw [List.getElem?_drop] at hj; simpa using hj
  · cases hj

theorem arr_blk {O : Nat → Prop} {sz n c : Nat} {f : Nat → List AV} {ys : List Value} {T : TypeId} (hc : w.heap[c]? = some (.cells ys.toArray T (0, 0))) (hsz : 0 < sz) (hlen : n * sz ≤ ys.length) (h : ∀ i, i < n → (f i).length = sz ∧ VRels w O noEta (f i) ((ys.drop (i * sz)).take sz)) (h1 : ∀ u ∈ ys.take (n * sz), u.oneCell' = true) :
    BRel w O η c ys.length (.arr sz n f) := by
  refine ⟨ys, T, hc, rfl, hsz, hlen, fun i hi => ⟨(h i hi).1, (h i hi).2, fun u hu => h1 u ?_⟩⟩
  have hmul : i * sz + sz ≤ n * sz := by
    have := Nat.mul_le_mul_right sz (show i + 1 ≤ n by omega)
    rw [Nat.add_mul] at this; omega
  obtain ⟨j, hj, rfl⟩ := List.mem_iff_getElem.1 hu
  simp only [List.length_take, List.length_drop] at hj
  rw [List.getElem_take, List.getElem_drop]
  rw [show ys[i * sz + j] = (ys.take (n * sz))[i * sz + j]'(by simp; omega) from by rw [List.getElem_take]]
  exact List.getElem_mem _

theorem buildSlice_run {t e : TypeId} {sz n : Nat} {l : List (Nat × AV)} {m : List (Nat × Value)} {es : List (List AV)} {ze : List AV} {O : Nat → Prop} (hu : P.underlying t = some (.slice e)) (hs : sizeT P e = some sz) (hz : zeroT P e = some ze) (hl : PRel w O η l m) (hes : elemsA sz 0 l = some es) (hlen : es.length = n) (hsmall : n * sz ≤ 10000) :
    ∃ ys : List Value, (Instr.buildSlice t n m.toArray).run P w = .ok (.slice (some ⟨w.heap.size, 0, none⟩) n n) (w.alloc (.cells ys.toArray e)) ∧ ys.length = n * sz ∧ VRels w O η es.flatten ys ∧ (∀ u ∈ ys, u.oneCell' = true) ∧ ∀ (i : Nat) (e : List AV), es[i]? = some e → e.length = sz := by
  obtain ⟨zv, hzr, _, _, i, hi, hiz⟩ := run_zero (w := w) hz
  have key : ∀ z : Array Value, ∃ (xs' : Array Value) (ys : List Value), Instr.fill (fun i => some (i * sz, sz)) ((Array.range (n * sz)).map (z[· % z.size]!)) m = some xs' ∧ xs'.toList = ys ∧ ys.length = n * sz ∧ VRels w O η es.flatten ys ∧ (∀ u ∈ ys, u.oneCell' = true) ∧ ∀ (i : Nat) (e : List AV), es[i]? = some e → e.length = sz := fun z => by
    have hl6 : l.length = n := by
      have : ∀ {l : List (Nat × AV)} {k : Nat} {es : List (List AV)}, elemsA sz k l = some es → es.length = l.length := by
        intro l
        induction l with
        | nil => intro k es h; simp only [elemsA, Option.some.injEq] at h; subst h; rfl
        | cons p r ih =>
          intro k es h
          obtain ⟨i, v⟩ := p
          simp only [elemsA] at h
          split at h
          · rename_i l' _ _ _ hl'
            simp only [Option.some.injEq] at h
            subst h
            simp [ih hl']
          · cases h
      rw [← this hes]; exact hlen
    obtain ⟨xs', ys, g1, g2, g3, g4, g5, g6, g7⟩ := elemsA_fill (xs := (Array.range (n * sz)).map (z[· % z.size]!)) hl hes (by simp [hl6])
    refine ⟨xs', ys, g1, ?_, by rw [g3, hl6], g4, g5, g7⟩
    rw [g2, hl6]
    simp
  unfold Instr.buildSlice
  simp only [Sem.run_bind, run_underlying hu, Result.andThen_ok, run_sizeOf hs]
  have hbig : ¬ (n * sz > 2 ^ 24) := by omega
  by_cases h0 : n * sz = 0
  · obtain ⟨xs', ys, g1, g2, g3⟩ := key #[]
    refine ⟨ys, ?_, g3⟩
    subst g2
    simp [h0, Array.range_zero'] at g1
    simp [hbig, h0, newRow, Array.range_zero', g1]
  · obtain ⟨xs', ys, g1, g2, g3⟩ := key zv.cells
    refine ⟨ys, ?_, g3⟩
    subst g2
    simp only [hbig, h0, if_false, Sem.run_bind, Sem.run_pure, Result.andThen_ok, hzr, g1]
    simp [newRow]

theorem sound_buildRs {t e : TypeId} {sz n : Nat} {ps : Array (Nat × Operand)} {l : List (Nat × AV)} {es : List (List AV)} {ze : List AV} (ho : o.op = .buildSlice t n ps) (hu : P.underlying t = some (.slice e)) (hs : sizeT P e = some sz) (hz : zeroT P e = some ze) (hl : PRel w (Own O0 η Ĥ) noEta l (ps.toList.map fun (i, x) => (i, ρ x))) (hes : elemsA sz 0 l = some es) (hlen : es.length = n) (hsmall : n * sz ≤ 10000)
    (hH : HRel O0 η Ĥ w) :
    Goes P o ρ w (Res O0 η Ĥ next w (.rs sz n (some n) (fun i => es.getD i [])) [] next) := by
  obtain ⟨ys, g1, g2, g3, g4, g5⟩ := buildSlice_run hu hs hz hl hes hlen hsmall
  refine goes_value (s := Instr.buildSlice t n (ps.map fun (i, x) => (i, ρ x))) (by simp only [execOp, ho]) ?_ (rs_new (hH := hH) e (some n) (fun m h => by simpa using h) g2 (fun i hi => seg_rel g3 g5 i (by omega)) g4)
  rw [← g1]
  congr 2
  apply Array.ext'
  simp

theorem sound_buildSl {t e : TypeId} {sz n : Nat} {ps : Array (Nat × Operand)} {l : List (Nat × AV)} {es : List (List AV)} {ze : List AV} (ho : o.op = .buildSlice t n ps) (hu : P.underlying t = some (.slice e)) (hs : sizeT P e = some sz) (hz : zeroT P e = some ze) (hl : PRel w (Own O0 η Ĥ) noEta l (ps.toList.map fun (i, x) => (i, ρ x))) (hes : elemsA sz 0 l = some es) (hlen : es.length = n) (hsmall : n * sz ≤ 10000)
    (hpos : 0 < sz) (hH : HRel O0 η Ĥ w) (hn : η next = none) :
    Goes P o ρ w (Res O0 η Ĥ next w (.sl sz next 0 n) [(next, some (.arr sz n (fun i => es.getD i [])))] (next + 1)) := by
  obtain ⟨ys, g1, g2, g3, g4, g5⟩ := buildSlice_run hu hs hz hl hes hlen hsmall
  have hnm : n ≤ maxLen := by
    have : n ≤ n * sz := Nat.le_mul_of_pos_right n hpos
    simp only [maxLen]; omega
  refine goes_value (s := Instr.buildSlice t n (ps.map fun (i, x) => (i, ρ x))) (x := .slice (some ⟨w.heap.size, 0, none⟩) n n) (w' := w.alloc (.cells ys.toArray e)) (by simp only [execOp, ho]) (by rw [← g1]; congr 2; apply Array.ext'; simp)
    (res_new hH hn e ys _ w (world_same w) (fun w' O η' he hk hw' => arr_blk hw' hpos (by omega) (fun i hi => ?_) (fun u hu => g4 u (List.mem_of_mem_take hu))) _ _ (fun w' O η' he => ?_))
  · obtain ⟨q1, q2⟩ := seg_rel g3 g5 i (by omega)
    exact ⟨q1, q2.kept hk⟩
  · have := VRel.sl (w := w') (O := O) η' sz next 0 n w.heap.size ys.length n he (Nat.le_refl _) hnm (by rw [Nat.zero_add]; exact g2.symm)
    simpa using this

theorem sound_buildCells {t e : TypeId} {sz n : Nat} {ps : Array (Nat × Operand)} {l : List (Nat × AV)} {es : List (List AV)} {ze : List AV} (ho : o.op = .buildSlice t n ps) (hu : P.underlying t = some (.slice e)) (hs : sizeT P e = some sz) (hz : zeroT P e = some ze) (hl : PRel w (Own O0 η Ĥ) η l (ps.toList.map fun (i, x) => (i, ρ x))) (hes : elemsA sz 0 l = some es) (hlen : es.length = n) (hsmall : n * sz ≤ 10000)
    (hpos : 0 < sz) (hH : HRel O0 η Ĥ w) (hn : η next = none) :
    Goes P o ρ w (Res O0 η Ĥ next w (.sl sz next 0 n) [(next, some (.cells es.flatten))] (next + 1)) := by
  obtain ⟨ys, g1, g2, g3, g4, g5⟩ := buildSlice_run hu hs hz hl hes hlen hsmall
  have hnm : n ≤ maxLen := by
    have : n ≤ n * sz := Nat.le_mul_of_pos_right n hpos
    simp only [maxLen]; omega
  refine goes_value (s := Instr.buildSlice t n (ps.map fun (i, x) => (i, ρ x))) (x := .slice (some ⟨w.heap.size, 0, none⟩) n n) (w' := w.alloc (.cells ys.toArray e)) (by simp only [execOp, ho]) (by rw [← g1]; congr 2; apply Array.ext'; simp)
    (res_new hH hn e ys (.cells es.flatten) w (world_same w) (fun w' O η' he hk hw' => ⟨ys, e, hw', rfl, (g3.kept hk).ext _ he, g4⟩) _ _ (fun w' O η' he => ?_))
  have := VRel.sl (w := w') (O := O) η' sz next 0 n w.heap.size ys.length n he (Nat.le_refl _) hnm (by rw [Nat.zero_add]; exact g2.symm)
  simpa using this

theorem made_seg {z : Array Value} {sz n : Nat} (hz : z.size = sz) (i : Nat) (hi : i < n) : (((madeCells z (n * sz)).toList.drop (i * sz)).take sz) = z.toList := by
  apply List.ext_getElem?
  intro j
  rw [List.getElem?_take, List.getElem?_drop]
  have hmul : i * sz + sz ≤ n * sz := by
    have := Nat.mul_le_mul_right sz (show i + 1 ≤ n by omega)
    rw [Nat.add_mul] at this; omega
  split
  · rename_i hj
    have hlt : i * sz + j < n * sz := by omega
    simp only [madeCells, Array.getElem?_toList, Array.getElem?_map, Array.getElem?_range, hlt, if_true, Option.map_some, hz]
    have hmod : (i * sz + j) % sz = j := by rw [Nat.add_comm, Nat.add_mul_mod_self_right, Nat.mod_eq_of_lt hj]
    rw [hmod]
    have hjz : j < z.size := by omega
    simp [hjz]
  · rename_i hj
    symm
    simp
    omega

theorem sound_make {t e : TypeId} {l c : Operand} {k k' : IntKind} {n : Int} {i : TypeInfo} {z : List AV} (ho : o.op = .makeSlice t l c) (hu : P.underlying t = some (.slice e)) (hl : VRel w (Own O0 η Ĥ) η (.v (.int k n)) (ρ l)) (hc : VRel w (Own O0 η Ĥ) η (.v (.int k' n)) (ρ c)) (hi : P.info? e = some i) (hz : zeroT P e = some z)
    (hzl : z.length = i.size) (hpos : 0 < i.size) (h0 : 0 ≤ n) (hb : (i.bytes : Int) * n ≤ 140737488355328) (hb2 : n ≤ 140737488355328) (hH : HRel O0 η Ĥ w) (hn : η next = none) :
    Goes P o ρ w (Res O0 η Ĥ next w (.sl i.size next 0 n.toNat) [(next, some (.arr i.size n.toNat (fun _ => z)))] (next + 1)) := by
  obtain ⟨zv, hzr, hzz, hone, i', hi', hiz⟩ := run_zero (w := w) hz
  rw [hi] at hi'; cases hi'
  have el := vrel_v hl
  have ec := vrel_v hc
  have hr := run_make (P := P) w t e i zv hu hi hiz k k' n n h0 (Int.le_refl _) (by omega) (by omega)
  have hzs : zv.cells.size = i.size := by rw [hzz] at hzl; simpa using hzl
  have hlen : (madeCells zv.cells (n.toNat * i.size)).toList.length = n.toNat * i.size := by simp [size_madeCells]
  refine goes_value (s := Instr.makeSlice t (ρ l) (ρ c)) (x := .slice (some ⟨w.heap.size, 0, none⟩) n.toNat n.toNat) (w' := w.alloc (.cells (madeCells zv.cells (n.toNat * i.size)).toList.toArray e)) (by simp only [execOp, ho]) (by rw [el, ec]; simpa using hr)
    (res_new hH hn e (madeCells zv.cells (n.toNat * i.size)).toList _ w (world_same w) (fun w' O η' he hk hw' => arr_blk hw' hpos (by omega) (fun j hj => ?_) (fun u hu => ?_)) _ _ (fun w' O η' he => ?_))
  · refine ⟨hzl, ?_⟩
    rw [made_seg hzs j hj, hzz]
    exact VRels.vs _ _
  · have hu' := List.mem_of_mem_take hu
    obtain ⟨m, hm, rfl⟩ := List.mem_iff_getElem.1 hu'
    have hm' : m < n.toNat * i.size := by omega
    simp only [madeCells, Array.toList_map, List.getElem_map]
    have hlt : m % zv.cells.size < zv.cells.size := Nat.mod_lt _ (by omega)
    simp only [Array.toList_range, List.getElem_range]
    rw [getElem!_pos zv.cells _ hlt]
    exact hone _ (by simp)
  · have := VRel.sl (w := w') (O := O) η' i.size next 0 n.toNat w.heap.size (madeCells zv.cells (n.toNat * i.size)).toList.length n.toNat he (Nat.le_refl _) (by simp only [maxLen]; omega) (by rw [Nat.zero_add]; exact hlen.symm)
    simpa using this
end
end Go.Ev
