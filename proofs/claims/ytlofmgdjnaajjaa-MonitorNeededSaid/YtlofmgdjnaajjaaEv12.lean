/- Own text: append comes out. -/
import Derived.Test.YtlofmgdjnaajjaaEv11
namespace Go.Ev
open Go Go.RowKit
set_option linter.unusedVariables false
set_option linter.unusedSimpArgs false
section
variable {P : Program} {O0 : Nat → Prop} {η : Eta} {H Ĥ : Nat → Option Blk} {w : World} {ρ : Operand → Value} {env : Env} {next : Nat} {o : Oper} {v : AV} {u : Heap} {n' : Nat}

theorem size_zero_cells {z : Array Value} {sz n : Nat} (hz : z.size = sz) : (Builtin.zeroCells z n).toList.length = n * sz := by simp [size_zeroCells, hz]

/-- The grown row. -/
theorem grown_eq {olds news : List Value} {zs : Array Value} {T : TypeId} (w : World) : w.drew.alloc (.cells (olds.toArray ++ news.toArray ++ zs) T) = w.drew.alloc (.cells ((olds ++ news) ++ zs.toList).toArray T) := by
  congr 2
  apply Array.ext'
  simp

theorem world_drew (w : World) : w.drew.heap = w.heap ∧ w.drew.os = w.os ∧ w.drew.tape = w.tape ∧ w.drew.output = w.output := ⟨rfl, rfl, rfl, rfl⟩

theorem kept_below (h : Below 0 w w) : True := trivial

/-- What is appended to a slice without room. -/
theorem sound_append_zero {s x : Operand} {t e : TypeId} {i : TypeInfo} {z : List AV} {m : Nat} {g : Nat → List AV} {base : Option Addr} {news : List Value} (ho : o.op = .call { callee := .builtin .append, args := #[s, x], argTypes := #[t, t] })
    (hu : P.underlying t = some (.slice e)) (hi : P.info? e = some i) (hz : zeroT P e = some z) (hzl : z.length = i.size) (hpos : 0 < i.size)
    (hs : ρ s = .slice base 0 0) (hnews : Segs w (Own O0 η Ĥ) i.size m g news)
    (hxx : (∃ c p cap, ρ x = .slice (some ⟨c, p, none⟩) m cap ∧ m ≤ cap ∧ ∀ j u, news[j]? = some u → w.cell? ⟨c, p + j, none⟩ = some u) ∨ (∃ bx, ρ x = .slice bx 0 0 ∧ m = 0))
    (hbytes : m * i.bytes ≤ 140737488355328) (hmax : m ≤ maxLen) (hH : HRel O0 η Ĥ w) (hn : η next = none) :
    Goes P o ρ w (Res O0 η Ĥ next w (.sl i.size next 0 m) [(next, some (.arr i.size m g))] (next + 1)) := by
  obtain ⟨zv, hzr, hzz, hone, i', hi', hiz⟩ := run_zero (w := w) hz
  rw [hi] at hi'; cases hi'
  have hzs : zv.cells.size = i.size := by rw [hzz] at hzl; simpa using hzl
  have fin : ∀ {y : Value} {w' : World}, (Builtin.append_ #[t, t] o.type #[ρ s, ρ x]).run P w = .ok y w' → Res O0 η Ĥ next w (.sl i.size next 0 m) [(next, some (.arr i.size m g))] (next + 1) y w' → Goes P o ρ w (Res O0 η Ĥ next w (.sl i.size next 0 m) [(next, some (.arr i.size m g))] (next + 1)) := fun hr hv =>
    goes_builtin (Builtin.append_ #[t, t] o.type #[ρ s, ρ x]) ho (fun cs => by simp [builtin]) hr hv
  have hsmall : m ≤ 9223372036854775807 := by simp only [maxLen] at hmax; omega
  rcases Nat.eq_zero_or_pos m with rfl | hm
  · have hnil : news = [] := List.eq_nil_of_length_eq_zero (by simpa using hnews.1)
    subst hnil
    have hr : (Builtin.append_ #[t, t] o.type #[ρ s, ρ x]).run P w = .ok (.slice base 0 0) w := by
      rw [hs]
      have key : ∀ (bx : Option Addr) (cap : Nat), (Builtin.append_ #[t, t] o.type #[.slice base 0 0, .slice bx 0 cap]).run P w = .ok (.slice base 0 0) w := fun bx cap => by
        have hf : (Builtin.firstCells i.size 0 (.slice bx 0 cap)).run P w = .ok #[] w := by
          cases bx with
          | none => simp [Builtin.firstCells]
          | some a => simpa using run_firstCells_some (P := P) w i.size 0 a 0 cap [] (by simp) (by simp)
        cases base <;> simp [Builtin.append_, run_underlying hu, sizeOf, typeInfo, hi, Builtin.lenOf, hf, storeCells]
      rcases hxx with ⟨c, p, cap, hx, _, _⟩ | ⟨bx, hx, _⟩
      · rw [hx]; exact key _ _
      · rw [hx]; exact key _ _
    obtain ⟨k1, k2⟩ := hH.ghost hn i.size g
    refine fin hr ⟨η, EtaLe.refl η, fun _ _ => rfl, ?_, k1, k2, Below.refl 0 w, fun _ _ => rfl⟩
    exact .slN _ _ _ _ _
  · rcases hxx with ⟨a, p, cx, hxe, hmc, hcell⟩ | ⟨bx, hxe, hm0⟩
    · have hcell' : ∀ j u, news[j]? = some u → w.cell? ((⟨a, p, none⟩ : Addr).add j) = some u := fun j u hj => by rw [Addr.add_lit]; exact hcell j u hj
      rcases base with _ | q
      · have hr := run_append_nil (P := P) w t o.type e i zv hu hi hiz ⟨a, p, none⟩ m cx news hnews.1 hcell' hm (by omega) (by omega)
        rw [← hxe, ← hs] at hr
        have hge := grownCap_ge w m 0 e
        have hr' : (Builtin.append_ #[t, t] o.type #[ρ s, ρ x]).run P w = .ok (.slice (some ⟨w.heap.size, 0, none⟩) m (grownCap w m 0 e)) (w.drew.alloc (.cells (news ++ (Builtin.zeroCells zv.cells (grownCap w m 0 e - m)).toList).toArray e)) := by
          rw [hr]
          congr 3
          apply Array.ext'
          simp
        exact fin hr' (res_row hH hn e hpos hnews hge (grownCap_le_maxLen w m 0 e hmax) (by rw [hnews.1, size_zero_cells hzs, ← Nat.add_mul]; congr 1; omega) w.drew (world_drew w))
      · have hr := run_append_grow (P := P) w t o.type e i zv hu hi hiz q 0 0 [] (by simp) (by simp) ⟨a, p, none⟩ m cx news hnews.1 hcell' (by omega) (by omega) (growslice_fits (by omega) (by rw [Nat.zero_add]; exact hbytes))
        rw [← hxe, ← hs] at hr
        have hge := grownCap_ge w m 0 e
        have hr' : (Builtin.append_ #[t, t] o.type #[ρ s, ρ x]).run P w = .ok (.slice (some ⟨w.heap.size, 0, none⟩) m (grownCap w m 0 e)) (w.drew.alloc (.cells (news ++ (Builtin.zeroCells zv.cells (grownCap w m 0 e - m)).toList).toArray e)) := by
          rw [hr, Nat.zero_add]
          congr 3
          apply Array.ext'
          simp
        exact fin hr' (res_row hH hn e hpos hnews hge (grownCap_le_maxLen w m 0 e hmax) (by rw [hnews.1, size_zero_cells hzs, ← Nat.add_mul]; congr 1; omega) w.drew (world_drew w))
    · omega

theorem hupd_append (H : Nat → Option Blk) (u k : Heap) : hupd H (u ++ k) = hupd (hupd H k) u := by
  funext b
  induction u with
  | nil => rfl
  | cons p r ih =>
    obtain ⟨b', y⟩ := p
    simp only [hupd, List.cons_append, look] at ih ⊢
    cases Nat.beq b' b with
    | true => rfl
    | false => exact ih
/-- Behind blocks that have gone. -/
theorem Res.behind {k : Heap} {v : AV} {uu : Heap} {m' : Nat} {x : Value} {w' : World} (hk : Kept (Own O0 η Ĥ) w (Own O0 η (hupd Ĥ k)) w) (h : Res O0 η (hupd Ĥ k) next w v uu m' x w') : Res O0 η Ĥ next w v (uu ++ k) m' x w' := by
  have e := hupd_append Ĥ uu k
  obtain ⟨η', p1, p2, p3, p4, p5, p6, p7⟩ := h
  refine ⟨η', p1, p2, by rw [e]; exact p3, by rw [e]; exact p4, by rw [e]; exact hk.trans p5 (Nat.le_refl _), p6, p7⟩

theorem sound_append {s x : Operand} {t e : TypeId} {i : TypeInfo} {z : List AV} {sv xv : AV} {r : AV} {uu : Heap} {m' : Nat} (ho : o.op = .call { callee := .builtin .append, args := #[s, x], argTypes := #[t, t] })
    (hu : P.underlying t = some (.slice e)) (hi : P.info? e = some i) (hz : zeroT P e = some z) (hzl : z.length = i.size) (hpos : 0 < i.size)
    (hs : VRel w (Own O0 η Ĥ) η sv (ρ s)) (hx : VRel w (Own O0 η Ĥ) η xv (ρ x)) (h : appendA i.size sv xv Ĥ next i.bytes (fun v u n => v = r ∧ u = uu ∧ n = m')) (hH : HRel O0 η Ĥ w) (hn : η next = none) :
    Goes P o ρ w (Res O0 η Ĥ next w r uu m') := by
  obtain ⟨zv, hzr, hzz, hone, i', hi', hiz⟩ := run_zero (w := w) hz
  rw [hi] at hi'; cases hi'
  have hzs : zv.cells.size = i.size := by rw [hzz] at hzl; simpa using hzl
  have fin : ∀ {y : Value} {w' : World}, (Builtin.append_ #[t, t] o.type #[ρ s, ρ x]).run P w = .ok y w' → Res O0 η Ĥ next w r uu m' y w' → Goes P o ρ w (Res O0 η Ĥ next w r uu m') := fun hr hv =>
    goes_builtin (Builtin.append_ #[t, t] o.type #[ρ s, ρ x]) ho (fun cs => by simp [builtin]) hr hv
  unfold appendA at h
  split at h
  · rename_i cc z1 m k1 g hview
    split at h
    · -- a slice of ours
      rename_i sz' b of n
      split at h
      · rename_i z' n' f hb
        split at h
        · rename_i e1 e2 e3 e4
          cases Nat.eq_of_beq_eq_true e1; cases Nat.eq_of_beq_eq_true e2; cases Nat.eq_of_beq_eq_true e3; cases Nat.eq_of_beq_eq_true e4
          obtain ⟨hcc, rfl, hbytes, hmax, rfl, rfl, rfl⟩ := allK_iff.1 h
          obtain ⟨news, hnews, hxx⟩ := xcells hx hview hcc hH
          have hs0 := hs
          have hghost : ∀ base : Option Addr, ρ s = .slice base 0 0 → n = 0 → Goes P o ρ w (Res O0 η Ĥ next w (.sl i.size next 0 (n + m)) [(next, some (.arr i.size (n + m) fun j => if j < n then f j else g (j - n))), (b, none)] (next + 1)) := fun base h1 h3 => by
            subst h3
            have hfun : (fun j => if j < 0 then f j else g (j - 0)) = g := by funext j; simp
            rw [hfun, Nat.zero_add]
            obtain ⟨k1, k2⟩ := hH.kill (H' := hupd Ĥ [(b, none)]) (fun b' k' hb' => by
              by_cases hbb : b = b'
              · subst hbb; rw [hupd_one_self] at hb'; cases hb'
              · rwa [hupd_one_ne _ _ hbb] at hb')
            rw [Nat.zero_add] at hbytes hmax
            have := sound_append_zero (next := next) ho hu hi hz hzl hpos h1 (hnews.kept k2) hxx hbytes hmax k1 hn
            unfold Goes at this ⊢
            generalize (execOp ρ o).run P w = rr at this ⊢
            cases rr with
            | halt y w' => exact this.elim
            | ok nn w' =>
              cases nn <;> simp only at this ⊢ <;> first
                | exact Res.behind k2 this
                | exact this.elim
                | exact this.mono fun e w' ⟨x, hx, hr⟩ => ⟨x, hx, Res.behind k2 hr⟩
          generalize hsv : ρ s = ys at hs
          cases hs with
          | slN => exact hghost _ hsv rfl
          | sl _ _ _ _ _ c N cap g1 g2 g3 g4 =>
          obtain ⟨h2, h3⟩ := hH.real hb g1
          obtain ⟨cur, T, q1, q2, q3, q4, q5⟩ := h3
          simp only [Nat.zero_mul, Nat.zero_add] at g4 hsv
          have holds := arr_segs (w := w) (O := Own O0 η Ĥ) (sz := i.size) (n := n) (o' := 0) (m := n) (f := f) (by omega) (by omega) q5
          simp only [Nat.zero_add, Nat.zero_mul, List.drop_zero] at holds
          have hall := holds.append hnews
          by_cases hroom : n + m ≤ cap
          · -- there is room
            have hfit : n * i.size + news.length ≤ cur.toArray.size := by
              rw [hnews.1, ← Nat.add_mul]
              have := Nat.mul_le_mul_right i.size hroom
              simp; omega
            have hlist : (cur.toArray.toList.take (n * i.size) ++ news ++ cur.toArray.toList.drop (n * i.size + news.length)) = (cur.take (n * i.size) ++ news) ++ cur.drop ((n + m) * i.size) := by
              simp [hnews.1, Nat.add_mul]
            have hr : (Builtin.append_ #[t, t] o.type #[ρ s, ρ x]).run P w = .ok (.slice (some ⟨c, 0, none⟩) (n + m) cap) (w.setRow c ((cur.take (n * i.size) ++ news) ++ cur.drop ((n + m) * i.size)).toArray) := by
              rw [hsv]
              have hst := run_storeCells_at P c (n * i.size) T news 0 cur.toArray w q1 (by simpa using hfit) hnews.2.1
              simp only [Nat.add_zero] at hst
              rw [hlist] at hst
              rcases hxx with ⟨a, p, cx, hxe, hmc, hcell⟩ | ⟨bx, hxe, hm0⟩
              · rw [hxe]
                have hf := run_firstCells_some (P := P) w i.size m ⟨a, p, none⟩ m cx news hnews.1 (fun j u hj => by rw [Addr.add_lit]; exact hcell j u hj)
                simp only [Builtin.append_, run_underlying hu, sizeOf, typeInfo, hi, Sem.run_bind, Builtin.lenOf, Sem.run_pure, Result.andThen_ok, hroom, if_true]
                simp [run_underlying hu, sizeOf, typeInfo, hi, Builtin.lenOf, hroom, hf, Addr.add_lit, hst]
              · subst hm0
                rw [hxe]
                have hnil : news = [] := List.eq_nil_of_length_eq_zero (by simpa using hnews.1)
                subst hnil
                have hf : (Builtin.firstCells i.size 0 (.slice bx 0 0)).run P w = .ok #[] w := by
                  cases bx with
                  | none => simp [Builtin.firstCells]
                  | some a => simpa using run_firstCells_some (P := P) w i.size 0 a 0 0 [] (by simp) (by simp)
                simp [Builtin.append_, run_underlying hu, sizeOf, typeInfo, hi, Builtin.lenOf, g2, hf, storeCells]
                have := hst
                simp [storeCells] at this
                exact this
            obtain ⟨r1, r2⟩ := hH.move (w' := w.setRow c ((cur.take (n * i.size) ++ news) ++ cur.drop ((n + m) * i.size)).toArray) hb g1 hn (.arr i.size (n + m) (fun j => if j < n then f j else g (j - n))) (by simp) (fun y hy => setRow_other w c y _ hy) (fun hk => by
              have hlen : ((cur.take (n * i.size) ++ news) ++ cur.drop ((n + m) * i.size)).length = N := by
                rw [List.length_append, hall.1, List.length_drop]
                have := Nat.mul_le_mul_right i.size hroom
                omega
              have hk' := hall.kept hk
              have := arr_blk (w := w.setRow c ((cur.take (n * i.size) ++ news) ++ cur.drop ((n + m) * i.size)).toArray) (η := etaSet η next c N) (c := c) (sz := i.size) (n := n + m) (f := fun j => if j < n then f j else g (j - n)) (ys := (cur.take (n * i.size) ++ news) ++ cur.drop ((n + m) * i.size)) (T := T)
                (setRow_heap w c _ _ T _ q1) hpos (by rw [List.length_append, hall.1]; omega) (fun j hj => by rw [seg_left hj (by rw [hall.1]; exact Nat.le_refl _)]; exact hk'.2.2 j hj) (fun y hy => by rw [← hall.1, List.take_left] at hy; exact hall.2.1 y hy)
              rwa [hlen] at this)
            refine fin hr ⟨_, etaSet_le hn, fun b' hb' => by unfold etaSet; rw [if_neg (by omega)], ?_, r1, r2, setRow_low _ _ _, fun y hy => setRow_other w c y _ fun e => h2 (e ▸ hy)⟩
            have := VRel.sl (w := w.setRow c ((cur.take (n * i.size) ++ news) ++ cur.drop ((n + m) * i.size)).toArray) (O := Own O0 (etaSet η next c N) (hupd Ĥ [(next, some (.arr i.size (n + m) (fun j => if j < n then f j else g (j - n)))), (b, none)])) (etaSet η next c N) i.size next 0 (n + m) c N cap (by simp [etaSet]) hroom g3 (by rw [Nat.zero_add]; exact g4)
            simpa using this
          · -- a new row
            rcases hxx with ⟨a, p, cx, hxe, hmc, hcell⟩ | ⟨bx, hxe, hm0⟩
            · have holdc : ∀ j u, (cur.take (n * i.size))[j]? = some u → w.cell? ((⟨c, 0, none⟩ : Addr).add j) = some u := fun j u hj => by
                rw [Addr.add_lit, Nat.zero_add, cell_of_row w c _ _ T _ q1]
                rw [List.getElem?_take] at hj
                split at hj
                · simpa using hj
                · cases hj
              have hsmall : n + m ≤ 9223372036854775807 := by simp only [maxLen] at hmax; omega
              have hr := run_append_grow (P := P) w t o.type e i zv hu hi hiz ⟨c, 0, none⟩ n cap (cur.take (n * i.size)) holds.1 holdc ⟨a, p, none⟩ m cx news hnews.1 (fun j u hj => by rw [Addr.add_lit]; exact hcell j u hj) (by omega) (by omega) (growslice_fits (by omega) hbytes)
              rw [← hxe, ← hsv, grown_eq] at hr
              obtain ⟨k1, k2⟩ := hH.kill (H' := hupd Ĥ [(b, none)]) (fun b' k' hb' => by
                by_cases hbb : b = b'
                · subst hbb; rw [hupd_one_self] at hb'; cases hb'
                · rwa [hupd_one_ne _ _ hbb] at hb')
              have hge := grownCap_ge w (n + m) cap e
              have hres := res_row k1 hn e (zs := (Builtin.zeroCells zv.cells (grownCap w (n + m) cap e - (n + m))).toList) hpos (hall.kept k2) hge (grownCap_le_maxLen w (n + m) cap e hmax) (by rw [hall.1, size_zero_cells hzs, ← Nat.add_mul]; congr 1; omega) w.drew (world_drew w)
              exact fin hr (Res.behind k2 hres)
            · omega
        · exact h.elim
      · exact h.elim
    · -- a full slice that nobody writes
      rename_i z' n k f
      split at h
      · rename_i e1 e2
        cases Nat.eq_of_beq_eq_true e1; cases Nat.eq_of_beq_eq_true e2
        split at h
        · rename_i e3
          cases Nat.eq_of_beq_eq_true e3
          obtain ⟨hcc, rfl, hbytes, hmax, rfl, rfl, rfl⟩ := allK_iff.1 h
          obtain ⟨news, hnews, hxx⟩ := xcells hx hview hcc hH
          generalize hsv : ρ s = ys at hs
          cases hs with
          | rs _ _ _ _ _ c off cap g1 g2 g3 g4 =>
            have hcap := g2 0 rfl
            subst hcap
            exact sound_append_zero ho hu hi hz hzl hpos hsv hnews hxx hbytes hmax hH hn
          | rsNil => exact sound_append_zero ho hu hi hz hzl hpos hsv hnews hxx hbytes hmax hH hn
        obtain ⟨hcc, rfl, hm, hbytes, hmax, rfl, rfl, rfl⟩ := allK_iff.1 h
        obtain ⟨news, hnews, hxx⟩ := xcells hx hview hcc hH
        have hsmall : n + m ≤ 9223372036854775807 := by simp only [maxLen] at hmax; omega
        rcases hxx with ⟨a, p, cx, hxe, hmc, hcell⟩ | ⟨bx, hxe, hm0⟩
        · have hcell' : ∀ j u, news[j]? = some u → w.cell? ((⟨a, p, none⟩ : Addr).add j) = some u := fun j u hj => by rw [Addr.add_lit]; exact hcell j u hj
          generalize hsv : ρ s = ys at hs
          cases hs with
          | rs _ _ _ _ _ c off cap g1 g2 g3 g4 =>
            obtain ⟨olds, holds, holdc⟩ := rows_cells g3 g4
            have hcap := g2 n rfl
            subst hcap
            have hall := holds.append hnews
            have hr := run_append_grow (P := P) w t o.type e i zv hu hi hiz ⟨c, off, none⟩ cap cap olds holds.1 (fun j u hj => by rw [Addr.add_lit]; exact holdc j u hj) ⟨a, p, none⟩ m cx news hnews.1 hcell' (by omega) (by omega) (growslice_fits (by omega) hbytes)
            rw [← hxe, ← hsv, grown_eq] at hr
            have hge := grownCap_ge w (cap + m) cap e
            exact fin hr (res_row hH hn e hpos hall hge (grownCap_le_maxLen w (cap + m) cap e hmax) (by rw [hall.1, size_zero_cells hzs, ← Nat.add_mul]; congr 1; omega) w.drew (world_drew w))
          | rsNil =>
            rename_i hk0 _
            simp [Nat.beq] at hk0
        · omega
      · exact h.elim
    · -- nil
      split at h
      · rename_i e1
        cases Nat.eq_of_beq_eq_true e1
        obtain ⟨hcc, hbytes, hmax, rfl, rfl, rfl⟩ := allK_iff.1 h
        obtain ⟨news, hnews, hxx⟩ := xcells hx hview hcc hH
        exact sound_append_zero ho hu hi hz hzl hpos (vrel_v hs) hnews hxx hbytes hmax hH hn
      · exact h.elim
    · exact h.elim
  · exact h.elim

theorem sound_append_nil {s x : Operand} {t e : TypeId} {i : TypeInfo} {sv : AV} (ho : o.op = .call { callee := .builtin .append, args := #[s, x], argTypes := #[t, t] })
    (hu : P.underlying t = some (.slice e)) (hi : P.info? e = some i) (hs : VRel w (Own O0 η Ĥ) η sv (ρ s)) (hx : VRel w (Own O0 η Ĥ) η (.v (.slice none 0 0)) (ρ x))
    (h : (∃ sz n k f, sv = .rs sz n k f) ∨ (∃ sz b of n, sv = .sl sz b of n) ∨ sv = .v (.slice none 0 0)) (hH : HRel O0 η Ĥ w) :
    Goes P o ρ w (Res O0 η Ĥ next w sv [] next) := by
  refine goes_builtin (Builtin.append_ #[t, t] o.type #[ρ s, ρ x]) ho (fun cs => by simp [builtin]) (x := ρ s) (w' := w) ?_ (Res.same hH hs)
  have e2 := vrel_v hx
  rw [e2]
  generalize ρ s = ys at hs
  have key : ∀ base n cap, n ≤ cap → (Builtin.append_ #[t, t] o.type #[.slice base n cap, .slice none 0 0]).run P w = .ok (.slice base n cap) w := fun base n cap hc => by
    simp [Builtin.append_, run_underlying hu, sizeOf, typeInfo, hi, Builtin.lenOf, Builtin.firstCells, hc]
    cases base <;> simp [storeCells]
  rcases h with ⟨sz, n, k, f, rfl⟩ | ⟨sz, b, of, n, rfl⟩ | rfl
  · cases hs with
    | rs _ _ _ _ _ c off cap g1 => exact key _ _ _ g1
    | rsNil => exact key _ _ _ (Nat.le_refl _)
  · cases hs with
    | sl _ _ _ _ _ c N cap g1 g2 => exact key _ _ _ g2
    | slN => exact key _ _ _ (Nat.le_refl _)
  · cases vrel_v hs
    exact key _ _ _ (Nat.le_refl _)
end
end Go.Ev
