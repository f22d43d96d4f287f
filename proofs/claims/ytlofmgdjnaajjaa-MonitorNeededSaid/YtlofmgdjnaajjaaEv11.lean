/- Own text: append. -/
import Derived.Test.YtlofmgdjnaajjaaEv10
namespace Go.Ev
open Go Go.RowKit
set_option linter.unusedVariables false
set_option linter.unusedSimpArgs false
section
variable {P : Program} {O0 : Nat → Prop} {η : Eta} {H Ĥ : Nat → Option Blk} {w : World} {ρ : Operand → Value} {env : Env} {next : Nat} {o : Oper} {v : AV} {u : Heap} {n' : Nat}

/-- Elements that stand one behind the other. -/
def Segs (w : World) (O : Nat → Prop) (sz n : Nat) (f : Nat → List AV) (ys : List Value) : Prop :=
  ys.length = n * sz ∧ (∀ u ∈ ys, u.oneCell' = true) ∧ ∀ i, i < n → (f i).length = sz ∧ VRels w O noEta (f i) ((ys.drop (i * sz)).take sz)

theorem mul_lt {i n sz : Nat} (h : i < n) : i * sz + sz ≤ n * sz := by
  have := Nat.mul_le_mul_right sz (show i + 1 ≤ n by omega)
  rw [Nat.add_mul] at this; omega

theorem seg_left {ys zs : List Value} {i n sz : Nat} (h : i < n) (hl : n * sz ≤ ys.length) : ((ys ++ zs).drop (i * sz)).take sz = (ys.drop (i * sz)).take sz := by
  have := mul_lt (sz := sz) h
  rw [List.drop_append_of_le_length (by omega), List.take_append_of_le_length (by simp; omega)]
theorem seg_right {ys zs : List Value} {i n sz : Nat} (h : n ≤ i) (hl : ys.length = n * sz) : ((ys ++ zs).drop (i * sz)).take sz = (zs.drop ((i - n) * sz)).take sz := by
  have e : i * sz = ys.length + (i - n) * sz := by rw [hl, ← Nat.add_mul]; congr 1; omega
  rw [e, ← List.drop_drop, List.drop_left]

theorem Segs.append {O : Nat → Prop} {sz n m : Nat} {f g : Nat → List AV} {ys zs : List Value} (h : Segs w O sz n f ys) (k : Segs w O sz m g zs) : Segs w O sz (n + m) (fun i => if i < n then f i else g (i - n)) (ys ++ zs) := by
  obtain ⟨h1, h2, h3⟩ := h
  obtain ⟨k1, k2, k3⟩ := k
  refine ⟨by rw [List.length_append, h1, k1, Nat.add_mul], fun u hu => ?_, fun i hi => ?_⟩
  · rcases List.mem_append.1 hu with hu | hu
    · exact h2 u hu
    · exact k2 u hu
  · by_cases hin : i < n
    · simp only [if_pos hin]
      rw [seg_left hin (by omega)]
      exact h3 i hin
    · simp only [if_neg hin]
      rw [seg_right (n := n) (by omega) h1]
      exact k3 (i - n) (by omega)
theorem Segs.nil {O : Nat → Prop} (sz : Nat) (f : Nat → List AV) : Segs w O sz 0 f [] := ⟨by simp, by simp, fun i hi => absurd hi (Nat.not_lt_zero i)⟩
theorem Segs.kept {O O' : Nat → Prop} {w' : World} {sz n : Nat} {f : Nat → List AV} {ys : List Value} (h : Segs w O sz n f ys) (hk : Kept O w O' w') : Segs w' O' sz n f ys :=
  ⟨h.1, h.2.1, fun i hi => ⟨(h.2.2 i hi).1, (h.2.2 i hi).2.kept hk⟩⟩

/-- The cells of rows. -/
theorem rows_cells {O : Nat → Prop} {c off sz : Nat} {f : Nat → List AV} : ∀ {n : Nat}, (∀ i, i < n → (f i).length = sz) → (∀ i, i < n → VRow w O c (off + i * sz) (f i)) → ∃ ys : List Value, Segs w O sz n f ys ∧ ∀ j u, ys[j]? = some u → w.cell? ⟨c, off + j, none⟩ = some u
  | 0, _, _ => ⟨[], Segs.nil sz f, by simp⟩
  | n + 1, h1, h2 => by
    obtain ⟨ys, ⟨g1, g2, g3⟩, g4⟩ := rows_cells (n := n) (fun i hi => h1 i (by omega)) (fun i hi => h2 i (by omega))
    obtain ⟨xs, k1, k2, k3⟩ := row_cells (h2 n (by omega))
    have hxs : xs.length = sz := by rw [← k1.length]; exact h1 n (by omega)
    refine ⟨ys ++ xs, ⟨by rw [List.length_append, g1, hxs, Nat.add_mul]; omega, fun u hu => ?_, fun i hi => ?_⟩, fun j u hj => ?_⟩
    · rcases List.mem_append.1 hu with hu | hu
      · exact g2 u hu
      · exact k2 u hu
    · by_cases hin : i < n
      · rw [seg_left hin (by omega)]; exact g3 i hin
      · have e : i = n := by omega
        subst e
        rw [seg_right (n := i) (Nat.le_refl _) g1]
        refine ⟨h1 i hi, ?_⟩
        simp only [Nat.sub_self, Nat.zero_mul, List.drop_zero]
        rw [List.take_of_length_le (by omega)]
        exact k1
    · rw [List.getElem?_append] at hj
      split at hj
      · exact g4 j u hj
      · have := (k3 _ u hj).1
        rw [g1] at *
        rwa [show off + n * sz + (j - n * sz) = off + j by omega] at this

theorem arr_segs {O : Nat → Prop} {sz n o' m : Nat} {f : Nat → List AV} {cur : List Value} (hle : o' + n ≤ m) (hm : m * sz ≤ cur.length) (h : ∀ i, i < m → (f i).length = sz ∧ VRels w O noEta (f i) ((cur.drop (i * sz)).take sz) ∧ ∀ u ∈ (cur.drop (i * sz)).take sz, u.oneCell' = true) :
    Segs w O sz n (fun i => f (o' + i)) ((cur.drop (o' * sz)).take (n * sz)) := by
  have hmul : (o' + n) * sz ≤ m * sz := Nat.mul_le_mul_right sz hle
  rw [Nat.add_mul] at hmul
  have hseg : ∀ i, i < n → (((cur.drop (o' * sz)).take (n * sz)).drop (i * sz)).take sz = (cur.drop ((o' + i) * sz)).take sz := fun i hi => by
    have := mul_lt (sz := sz) hi
    rw [List.drop_take, List.take_take, List.drop_drop, Nat.add_mul]
    congr 1
    omega
  refine ⟨by simp; omega, fun u hu => ?_, fun i hi => ?_⟩
  · obtain ⟨j, hj, rfl⟩ := List.mem_iff_getElem.1 hu
    simp only [List.length_take, List.length_drop] at hj
    have hsz : 0 < sz := by
      rcases Nat.eq_zero_or_pos sz with h0 | h0
      · subst h0; simp at hj
      · exact h0
    have hdiv : j / sz < n := Nat.div_lt_of_lt_mul (by rw [Nat.mul_comm]; omega)
    have hjj : j / sz * sz + j % sz = j := by rw [Nat.mul_comm]; exact Nat.div_add_mod j sz
    have hmod : j % sz < sz := Nat.mod_lt _ hsz
    refine (h (o' + j / sz) (by omega)).2.2 _ ?_
    rw [← hseg (j / sz) hdiv]
    have hmulj := mul_lt (sz := sz) hdiv
    refine List.mem_iff_getElem.2 ⟨j % sz, by simp; omega, ?_⟩
    rw [List.getElem_take, List.getElem_drop]
    congr 1
  · rw [hseg i hi]
    exact ⟨(h (o' + i) (by omega)).1, (h (o' + i) (by omega)).2.1⟩

/-- The cells behind a slice that is seen. -/
theorem xcells {x : AV} {xv : Value} {sz m : Nat} {k : Option Nat} {g : Nat → List AV} {cc : List Prop} (hx : VRel w (Own O0 η Ĥ) η x xv) (hv : viewA Ĥ x = some (cc, .rs sz m k g)) (hcc : ∀ p ∈ cc, p) (hH : HRel O0 η Ĥ w) :
    ∃ news : List Value, Segs w (Own O0 η Ĥ) sz m g news ∧ ((∃ c p cap, xv = .slice (some ⟨c, p, none⟩) m cap ∧ m ≤ cap ∧ ∀ j u, news[j]? = some u → w.cell? ⟨c, p + j, none⟩ = some u) ∨ (∃ base, xv = .slice base 0 0 ∧ m = 0)) := by
  have hrs : ∀ {k : Option Nat}, VRel w (Own O0 η Ĥ) η (.rs sz m k g) xv → ∃ news : List Value, Segs w (Own O0 η Ĥ) sz m g news ∧ ((∃ c p cap, xv = .slice (some ⟨c, p, none⟩) m cap ∧ m ≤ cap ∧ ∀ j u, news[j]? = some u → w.cell? ⟨c, p + j, none⟩ = some u) ∨ (∃ base, xv = .slice base 0 0 ∧ m = 0)) := fun hx => by
    cases hx with
    | rs _ _ _ _ _ c off cap g1 g2 g3 g4 =>
      obtain ⟨ys, h1, h2⟩ := rows_cells g3 g4
      exact ⟨ys, h1, .inl ⟨_, _, _, rfl, g1, fun j u hj => h2 j u hj⟩⟩
    | rsNil => exact ⟨[], Segs.nil _ _, .inr ⟨_, rfl, rfl⟩⟩
  unfold viewA at hv
  split at hv
  · rename_i sz' b o' n
    have hm : m = n := by
      split at hv
      · split at hv
        · split at hv <;> (simp only [Option.some.injEq, Prod.mk.injEq, AV.rs.injEq] at hv; exact hv.2.2.1.symm)
        · cases hv
      · split at hv
        · simp only [Option.some.injEq, Prod.mk.injEq, AV.rs.injEq] at hv; exact hv.2.2.1.symm
        · cases hv
      · cases hv
    cases hx with
    | slN => subst hm; exact ⟨[], Segs.nil _ _, .inr ⟨_, rfl, rfl⟩⟩
    | sl _ _ _ _ _ c N cap g1 g2 g3 g4 =>
    split at hv
    · rename_i z m' f hb
      split at hv
      · rename_i hz
        have hz' := Nat.eq_of_beq_eq_true hz; subst hz'
        have harr : o' + n ≤ m' → Segs w (Own O0 η Ĥ) z n (fun i => f (o' + i)) (((Classical.choose (hH.real hb g1).2).drop (o' * z)).take (n * z)) ∧ ∀ j u, (((Classical.choose (hH.real hb g1).2).drop (o' * z)).take (n * z))[j]? = some u → w.cell? ⟨c, o' * z + j, none⟩ = some u := fun hle => by
          obtain ⟨T, q1, q2, q3, q4, q5⟩ := Classical.choose_spec (hH.real hb g1).2
          refine ⟨arr_segs hle (by omega) q5, fun j u hj => ?_⟩
          rw [cell_of_row w c _ _ T _ q1]
          rw [List.getElem?_take] at hj
          split at hj
          · rw [List.getElem?_drop] at hj; simpa using hj
          · cases hj
        split at hv
        · rename_i ho
          cases Nat.eq_of_beq_eq_true ho
          simp only [Option.some.injEq, Prod.mk.injEq, AV.rs.injEq] at hv
          obtain ⟨rfl, rfl, rfl, rfl, rfl⟩ := hv
          obtain ⟨h1, h2⟩ := harr (by have := hcc _ (List.mem_singleton.2 rfl); omega)
          simp only [Nat.zero_add] at h1
          exact ⟨_, h1, .inl ⟨_, _, _, rfl, g2, h2⟩⟩
        · simp only [Option.some.injEq, Prod.mk.injEq, AV.rs.injEq] at hv
          obtain ⟨rfl, rfl, rfl, rfl, rfl⟩ := hv
          obtain ⟨h1, h2⟩ := harr (hcc _ (List.mem_singleton.2 rfl))
          exact ⟨_, h1, .inl ⟨_, _, _, rfl, g2, h2⟩⟩
      · cases hv
    · rename_i l hb
      split at hv
      · rename_i hle hp
        have hle' := Nat.le_of_ble_eq_true hle
        simp only [Option.some.injEq, Prod.mk.injEq, AV.rs.injEq] at hv
        obtain ⟨_, rfl, rfl, rfl, rfl⟩ := hv
        obtain ⟨h2, h3⟩ := hH.real hb g1
        obtain ⟨cur, T, q1, q2, q3, q4⟩ := blk_cells (k := .cells l) h3
        have q3' := q3.pure hp noEta
        have hlen := q3.length
        rw [Nat.add_mul] at hle'
        refine ⟨(cur.drop (o' * sz')).take (n * sz'), ⟨by simp; omega, fun u hu => q4 u (mem_seg hu), fun i hi => ?_⟩, .inl ⟨_, _, _, rfl, g2, fun j u hj => ?_⟩⟩
        · have hmul := mul_lt (sz := sz') hi
          have e : (((cur.drop (o' * sz')).take (n * sz')).drop (i * sz')).take sz' = (cur.drop ((o' + i) * sz')).take sz' := by
            rw [List.drop_take, List.take_take, List.drop_drop, Nat.add_mul]
            congr 1
            omega
          rw [e]
          refine ⟨by simp; rw [Nat.add_mul]; omega, (q3'.drop _).take _⟩
        · rw [cell_of_row w c _ _ T _ q1]
          rw [List.getElem?_take] at hj
          split at hj
          · rw [List.getElem?_drop] at hj; simpa using hj
          · cases hj
      · cases hv
    · cases hv
  · split at hv
    · simp only [Option.some.injEq, Prod.mk.injEq] at hv
      obtain ⟨_, rfl⟩ := hv
      exact hrs hx
    · cases hv

theorem size_zero (z : Array Value) (n : Nat) : (Builtin.zeroCells z n).size = n * z.size := size_zeroCells z n

/-- A row of our own, made of segments and of what stands behind them. -/
theorem res_row (hH : HRel O0 η Ĥ w) (hn : η next = none) (T : TypeId) {sz n cap : Nat} {f : Nat → List AV} {ys zs : List Value} (hsz : 0 < sz) (hs : Segs w (Own O0 η Ĥ) sz n f ys) (hcap : n ≤ cap) (hmax : cap ≤ maxLen) (hlen : ys.length + zs.length = cap * sz) (w1 : World) (hw1 : w1.heap = w.heap ∧ w1.os = w.os ∧ w1.tape = w.tape ∧ w1.output = w.output) :
    Res O0 η Ĥ next w (.sl sz next 0 n) [(next, some (.arr sz n f))] (next + 1) (.slice (some ⟨w.heap.size, 0, none⟩) n cap) (w1.alloc (.cells (ys ++ zs).toArray T)) := by
  refine res_new hH hn T (ys ++ zs) _ w1 hw1 (fun w' O η' he hk hw' => ?_) _ _ (fun w' O η' he => ?_)
  · have hs' := hs.kept hk
    refine arr_blk hw' hsz (by rw [List.length_append, hs.1]; omega) (fun i hi => ?_) (fun u hu => ?_)
    · rw [seg_left hi (by rw [hs.1]; exact Nat.le_refl _)]
      exact hs'.2.2 i hi
    · rw [← hs.1, List.take_left] at hu
      exact hs.2.1 u hu
  · have := VRel.sl (w := w') (O := O) η' sz next 0 n w.heap.size (ys ++ zs).length cap he hcap hmax (by rw [Nat.zero_add, List.length_append]; exact hlen.symm)
    simpa using this

theorem hupd_two (H : Nat → Option Blk) (a b : Nat) (k l : Option Blk) : hupd H [(a, k), (b, l)] = hupd (hupd H [(b, l)]) [(a, k)] := by
  funext x
  by_cases ha : a = x
  · subst ha; rw [hupd_one_self]; simp [hupd, look_cons_self]
  · rw [hupd_one_ne _ _ ha]
    unfold hupd
    rw [look_cons_ne _ _ ha]

/-- A block of ours goes, its row goes on as another one of ours. -/
theorem HRel.move {w' : World} (h : HRel O0 η Ĥ w) {b c N : Nat} {k0 : Blk} (hb : Ĥ b = some k0) (hc : η b = some (c, N)) (hn : η next = none) (k : Blk)
    (hsz : w'.heap.size = w.heap.size) (hw : ∀ x, x ≠ c → w'.heap[x]? = w.heap[x]?)
    (hk : Kept (Own O0 η Ĥ) w (Own O0 (etaSet η next c N) (hupd Ĥ [(next, some k), (b, none)])) w' → BRel w' (Own O0 (etaSet η next c N) (hupd Ĥ [(next, some k), (b, none)])) (etaSet η next c N) c N k) :
    HRel O0 (etaSet η next c N) (hupd Ĥ [(next, some k), (b, none)]) w' ∧ Kept (Own O0 η Ĥ) w (Own O0 (etaSet η next c N) (hupd Ĥ [(next, some k), (b, none)])) w' := by
  have hnb : next ≠ b := fun e => by rw [e, hc] at hn; cases hn
  have hHn : ∀ x, x ≠ next → x ≠ b → hupd Ĥ [(next, some k), (b, none)] x = Ĥ x := fun x h1 h2 => by
    rw [hupd_two, hupd_one_ne _ _ (Ne.symm h1), hupd_one_ne _ _ (Ne.symm h2)]
  have hHnext : hupd Ĥ [(next, some k), (b, none)] next = some k := by rw [hupd_two, hupd_one_self]
  have hHb : hupd Ĥ [(next, some k), (b, none)] b = none := by rw [hupd_two, hupd_one_ne _ _ hnb, hupd_one_self]
  have old : ∀ x kx, hupd Ĥ [(next, some k), (b, none)] x = some kx → x ≠ next → Ĥ x = some kx ∧ x ≠ b := fun x kx hx hne => by
    have hxb : x ≠ b := fun e => by rw [e, hHb] at hx; cases hx
    rw [hHn x hne hxb] at hx
    exact ⟨hx, hxb⟩
  have hkept : Kept (Own O0 η Ĥ) w (Own O0 (etaSet η next c N) (hupd Ĥ [(next, some k), (b, none)])) w' := by
    refine ⟨fun x hx hox => hw x fun e => hox (.inr ⟨b, k0, N, hb, by rw [e]; exact hc⟩), fun x hx => .inl ?_⟩
    rcases hx with hx | ⟨b', k', N', h1, h2⟩
    · exact .inl hx
    · by_cases hbn : b' = next
      · subst hbn
        simp [etaSet] at h2
        exact .inr ⟨b, k0, N, hb, by rw [← h2.1]; exact hc⟩
      · simp [etaSet, hbn] at h2
        exact .inr ⟨b', k', N', (old b' k' h1 hbn).1, h2⟩
  obtain ⟨e2, e3⟩ := h.real hb hc
  refine ⟨⟨fun b' k' hb' => ?_, fun b1 b2 k1 k2 c' N1 N2 h1 h2 i1 i2 => ?_, fun b' c' N' hb' => ?_, fun x hx => by rw [hsz]; exact h.O0lt x hx⟩, hkept⟩
  · by_cases hbn : b' = next
    · subst hbn
      rw [hHnext] at hb'; cases hb'
      exact .inr ⟨c, N, by simp [etaSet], e2, hk hkept⟩
    · obtain ⟨g1, g2⟩ := old b' k' hb' hbn
      rcases h.blk b' k' g1 with ⟨q0, q1⟩ | ⟨c', N', q1, q2, q3⟩
      · exact .inl ⟨by simp [etaSet, hbn, q0], q1⟩
      · have hne : c' ≠ c := fun e => g2 (h.inj b' b k' k0 c N' N g1 hb (by rw [← e]; exact q1) hc)
        exact .inr ⟨c', N', by simp [etaSet, hbn, q1], q2, q3.kept hkept (etaSet_le hn) (hw c' hne)⟩
  · by_cases hb1 : b1 = next <;> by_cases hb2 : b2 = next
    · rw [hb1, hb2]
    · obtain ⟨g1, g2⟩ := old b2 k2 h2 hb2
      simp [etaSet, hb1] at i1
      simp [etaSet, hb2] at i2
      exact absurd (h.inj b2 b k2 k0 c' N2 N g1 hb i2 (by rw [← i1.1]; exact hc)) g2
    · obtain ⟨g1, g2⟩ := old b1 k1 h1 hb1
      simp [etaSet, hb1] at i1
      simp [etaSet, hb2] at i2
      exact absurd (h.inj b1 b k1 k0 c' N1 N g1 hb i1 (by rw [← i2.1]; exact hc)) g2
    · simp [etaSet, hb1] at i1
      simp [etaSet, hb2] at i2
      exact h.inj b1 b2 k1 k2 c' N1 N2 (old b1 k1 h1 hb1).1 (old b2 k2 h2 hb2).1 i1 i2
  · rw [hsz]
    by_cases hbn : b' = next
    · simp [etaSet, hbn] at hb'; rw [← hb'.1]; exact h.lt _ _ _ hc
    · simp [etaSet, hbn] at hb'; exact h.lt _ _ _ hb'
end
end Go.Ev
