/- Own text: calls by contract; every operation. -/
import Derived.Test.YtlofmgdjnaajjaaEv12
namespace Go.Ev
open Go Go.RowKit
set_option linter.unusedVariables false
set_option linter.unusedSimpArgs false

/-- A function without memory: at these arguments it returns this value, and turns nothing. -/
def APure (P : Program) (f : FuncId) (args : List AV) (v : AV) : Prop :=
  ∀ (w : World) (O : Nat → Prop) (xs : List Value), (∀ c, O c → c < w.heap.size) → VRels w O noEta args xs →
    Calls P f xs.toArray w fun e w' => ∃ x, e = .returned x ∧ VRel w' O noEta v x ∧ Below w.heap.size w w'

/-- A function with a body. -/
def Entry (P : Program) (f : FuncId) : Prop := ∃ fn, P.funcs[f]? = some fn ∧ (fn.name == "runtime.NumGoroutine") = false ∧ fn.body.isSome = true

structure CfgOk (P : Program) (cfg : Cfg) : Prop where
  entry : ∀ f g, cfg.spec f = some g → Entry P f
  spec : ∀ f g, cfg.spec f = some g → ∀ args p v, g args = some (p, v) → p → APure P f args v

section
variable {P : Program} {O0 : Nat → Prop} {η : Eta} {H Ĥ : Nat → Option Blk} {w : World} {ρ : Operand → Value} {env : Env} {next : Nat} {o : Oper} {v : AV} {u : Heap} {n' : Nat}

theorem rs_of_segs {O : Nat → Prop} {η' : Eta} {sz n c off cap : Nat} {k : Option Nat} {f : Nat → List AV} {news : List Value} (hs : Segs w O sz n f news) (hc : ∀ j u, news[j]? = some u → w.cell? ⟨c, off + j, none⟩ = some u ∧ ¬ O c) (hcap : n ≤ cap) (hk : ∀ m, k = some m → cap = m) :
    VRel w O η' (.rs sz n k f) (.slice (some ⟨c, off, none⟩) n cap) := by
  refine .rs _ _ _ _ _ _ _ _ hcap hk (fun i hi => (hs.2.2 i hi).1) fun i hi => row_of (hs.2.2 i hi).2 (fun u hu => hs.2.1 u (mem_seg hu)) fun j u hj => ?_
  rw [List.getElem?_take] at hj
  split at hj
  · rw [List.getElem?_drop] at hj
    have := hc _ u hj
    rwa [← Nat.add_assoc] at this
  · cases hj

theorem view_sl {sz b o n : Nat} {a' : AV} {cc : List Prop} (hv : viewA Ĥ (.sl sz b o n) = some (cc, a')) : ∃ g, a' = .rs sz n none g := by
  unfold viewA at hv
  split at hv
  · rename_i heq
    simp only [AV.sl.injEq] at heq
    obtain ⟨rfl, rfl, rfl, rfl⟩ := heq
    split at hv
    · split at hv
      · split at hv <;> (simp only [Option.some.injEq, Prod.mk.injEq] at hv; exact ⟨_, hv.2.symm⟩)
      · cases hv
    · split at hv
      · simp only [Option.some.injEq, Prod.mk.injEq] at hv; exact ⟨_, hv.2.symm⟩
      · cases hv
    · cases hv
  · rename_i hne
    exact absurd rfl (hne _ _ _ _)
theorem view_live {sz b o n : Nat} {a' : AV} {cc : List Prop} (hv : viewA Ĥ (.sl sz b o n) = some (cc, a')) : ∃ k, Ĥ b = some k := by
  unfold viewA at hv
  split at hv
  · rename_i heq
    simp only [AV.sl.injEq] at heq
    obtain ⟨rfl, rfl, rfl, rfl⟩ := heq
    split at hv
    · rename_i hh; exact ⟨_, hh⟩
    · rename_i hh; exact ⟨_, hh⟩
    · cases hv
  · rename_i hne
    exact absurd rfl (hne _ _ _ _)
theorem sl_pubG {O' : Nat → Prop} {sz b o n : Nat} {a' : AV} {x : Value} {cc : List Prop} (h : VRel w (Own O0 η Ĥ) η (.sl sz b o n) x) (hv : viewA Ĥ (.sl sz b o n) = some (cc, a')) (hcc : ∀ p ∈ cc, p) (hH : HRel O0 η Ĥ w) (hO : ∀ c, O' c → Own O0 η Ĥ c) (hb : ∀ c N, η b = some (c, N) → ¬ O' c) : VRel w O' noEta a' x := by
  have hless : Kept (Own O0 η Ĥ) w O' w := Kept.less hO
  obtain ⟨g, rfl⟩ := view_sl hv
  obtain ⟨news, hs, hxx⟩ := xcells h hv hcc hH
  cases h with
  | sl _ _ _ _ _ c N cap g1 g2 g3 g4 =>
    rcases hxx with ⟨c1, p1, cx, hxe, hmc, hcell⟩ | ⟨bx, hxe, hm0⟩
    · simp only [Value.slice.injEq, Option.some.injEq, Addr.mk.injEq] at hxe
      obtain ⟨⟨rfl, rfl, _⟩, _, rfl⟩ := hxe
      exact rs_of_segs (hs.kept hless) (fun j u hj => ⟨hcell j u hj, hb c N g1⟩) g2 (fun m hm => by cases hm)
    · subst hm0
      simp only [Value.slice.injEq] at hxe
      obtain ⟨_, _, rfl⟩ := hxe
      exact .rsNil _ _ _ _ _ (fun m hm => by cases hm)
  | slN => exact .rsNil _ _ _ _ _ (fun m hm => by cases hm)

theorem slsOf_append : ∀ (a b : List AV), slsOf (a ++ b) = slsOf a ++ slsOf b
  | [], b => rfl
  | x :: r, b => by simp only [List.cons_append, slsOf, slsOf_append r b, List.append_assoc]

theorem all_split {c d : List Prop} (h : ∀ p ∈ c ++ d, p) : (∀ p ∈ c, p) ∧ ∀ p ∈ d, p := ⟨fun p hp => h p (List.mem_append_left _ hp), fun p hp => h p (List.mem_append_right _ hp)⟩

mutual
/-- A value whose slices nobody writes any more, as others see it. -/
theorem pub_relG {η0 : Eta} (hH : HRel O0 η0 Ĥ w) {O O' : Nat → Prop} (hO : O = Own O0 η0 Ĥ) (hO' : ∀ c, O' c → O c) : ∀ {η : Eta} {a : AV} {x : Value}, VRel w O η a x → η = η0 → ∀ {cc : List Prop} {a' : AV}, pubA Ĥ a = some (cc, a') → (∀ p ∈ cc, p) → (∀ b, b ∈ slsA a → ∀ c N, η0 b = some (c, N) → ¬ O' c) → VRel w O' noEta a' x
  | _, _, _, .v η x, e, cc, a', h, hcc, hb => by simp only [pubA, Option.some.injEq, Prod.mk.injEq] at h; obtain ⟨rfl, rfl⟩ := h; exact .v _ _
  | _, _, _, .ptr η b off c N _, e, cc, a', h, hcc, hb => by simp [pubA] at h
  | _, _, _, .pe η sz b i j c N h1, e, cc, a', h, hcc, hb => by simp [pubA] at h
  | _, _, _, .any η x, e, cc, a', h, hcc, hb => by simp only [pubA, Option.some.injEq, Prod.mk.injEq] at h; obtain ⟨rfl, rfl⟩ := h; exact .any _ _
  | _, _, _, .slN η sz b off bs, e, cc, a', h, hcc, hb => by
    subst e; subst hO
    simp only [pubA] at h
    exact sl_pubG (.slN η sz b off bs) h hcc hH hO' (hb b (by simp [slsA]))
  | _, _, _, .sl η sz b off len c N cap h1 h2 h3 h4, e, cc, a', h, hcc, hb => by
    subst e; subst hO
    simp only [pubA] at h
    exact sl_pubG (.sl η sz b off len c N cap h1 h2 h3 h4) h hcc hH hO' (hb b (by simp [slsA]))
  | _, _, _, .rs η sz n kk f c off cap h1 h2 h3 h4, e, cc, a', h, hcc, hb => by
    simp only [pubA, Option.some.injEq, Prod.mk.injEq] at h; obtain ⟨rfl, rfl⟩ := h
    exact ((VRel.rs η sz n kk f c off cap h1 h2 h3 h4).kept (Kept.less hO')).pure rfl _
  | _, _, _, .rsNil η sz kk f bs h1, e, cc, a', h, hcc, hb => by simp only [pubA, Option.some.injEq, Prod.mk.injEq] at h; obtain ⟨rfl, rfl⟩ := h; exact .rsNil _ _ _ _ _ h1
  | _, _, _, .ep η sz n f i j c off h1 h2 h3, e, cc, a', h, hcc, hb => by
    simp only [pubA, Option.some.injEq, Prod.mk.injEq] at h; obtain ⟨rfl, rfl⟩ := h
    exact ((VRel.ep η sz n f i j c off h1 h2 h3).kept (Kept.less hO')).pure rfl _
  | _, _, _, .fn η f a b x y h1 h2, e, cc, a', h, hcc, hb => by
    simp only [pubA] at h
    split at h
    · rename_i c1 m1 c2 m2 hc hd
      simp only [Option.some.injEq, Prod.mk.injEq] at h; obtain ⟨rfl, rfl⟩ := h
      exact .fn _ _ _ _ _ _ (pubs_relG hH hO hO' h1 e hc (all_split hcc).1 (fun b hm => hb b (by simp only [slsA]; exact List.mem_append_left _ hm))) (pubs_relG hH hO hO' h2 e hd (all_split hcc).2 (fun b hm => hb b (by simp only [slsA]; exact List.mem_append_right _ hm)))
    · cases h
  | _, _, _, .agg η a x h1 ho, e, cc, a', h, hcc, hb => by
    simp only [pubA] at h
    split at h
    · rename_i c1 m hm
      simp only [Option.some.injEq, Prod.mk.injEq] at h; obtain ⟨rfl, rfl⟩ := h
      exact .agg _ _ _ (pubs_relG hH hO hO' h1 e hm hcc (fun b hm => hb b (by simpa only [slsA] using hm))) ho
    · cases h
  | _, _, _, .tup η a x h1, e, cc, a', h, hcc, hb => by
    simp only [pubA] at h
    split at h
    · rename_i c1 m hm
      simp only [Option.some.injEq, Prod.mk.injEq] at h; obtain ⟨rfl, rfl⟩ := h
      exact .tup _ _ _ (pubs_relG hH hO hO' h1 e hm hcc (fun b hm => hb b (by simpa only [slsA] using hm)))
    · cases h
theorem pubs_relG {η0 : Eta} (hH : HRel O0 η0 Ĥ w) {O O' : Nat → Prop} (hO : O = Own O0 η0 Ĥ) (hO' : ∀ c, O' c → O c) : ∀ {η : Eta} {a : List AV} {x : List Value}, VRels w O η a x → η = η0 → ∀ {cc : List Prop} {a' : List AV}, pubsA Ĥ a = some (cc, a') → (∀ p ∈ cc, p) → (∀ b, b ∈ slsOf a → ∀ c N, η0 b = some (c, N) → ¬ O' c) → VRels w O' noEta a' x
  | _, _, _, .nil η, e, cc, a', h, hcc, hb => by simp only [pubsA, Option.some.injEq, Prod.mk.injEq] at h; obtain ⟨rfl, rfl⟩ := h; exact .nil _
  | _, _, _, .cons η a x as xs h1 h2, e, cc, a', h, hcc, hb => by
    simp only [pubsA] at h
    split at h
    · rename_i c1 y c2 ys hy hys
      simp only [Option.some.injEq, Prod.mk.injEq] at h; obtain ⟨rfl, rfl⟩ := h
      exact .cons _ _ _ _ _ (pub_relG hH hO hO' h1 e hy (all_split hcc).1 (fun b hm => hb b (by simp only [slsOf]; exact List.mem_append_left _ hm))) (pubs_relG hH hO hO' h2 e hys (all_split hcc).2 (fun b hm => hb b (by simp only [slsOf]; exact List.mem_append_right _ hm)))
    · cases h
end

mutual
theorem pub_live : ∀ {a a' : AV} {cc : List Prop}, pubA Ĥ a = some (cc, a') → ∀ b, b ∈ slsA a → ∃ k, Ĥ b = some k
  | .v _, a', cc, h, b, hb => by simp [slsA] at hb
  | .ptr _ _, a', cc, h, b, hb => by simp [slsA] at hb
  | .pe _ _ _ _, a', cc, h, b, hb => by simp [slsA] at hb
  | .rs _ _ _ _, a', cc, h, b, hb => by simp [slsA] at hb
  | .ep _ _ _ _ _, a', cc, h, b, hb => by simp [slsA] at hb
  | .any, a', cc, h, b, hb => by simp [slsA] at hb
  | .sl sz b0 o n, a', cc, h, b, hb => by
    simp [slsA] at hb
    subst hb
    exact view_live (by simpa only [pubA] using h)
  | .fn f x y, a', cc, h, b, hb => by
    simp only [pubA] at h
    split at h
    · rename_i c1 m1 c2 m2 hc hd
      simp only [slsA] at hb
      rcases List.mem_append.1 hb with hb | hb
      · exact pubs_live hc b hb
      · exact pubs_live hd b hb
    · cases h
  | .agg l, a', cc, h, b, hb => by
    simp only [pubA] at h
    split at h
    · rename_i c1 m hm
      exact pubs_live hm b (by simpa only [slsA] using hb)
    · cases h
  | .tup l, a', cc, h, b, hb => by
    simp only [pubA] at h
    split at h
    · rename_i c1 m hm
      exact pubs_live hm b (by simpa only [slsA] using hb)
    · cases h
theorem pubs_live : ∀ {l l' : List AV} {cc : List Prop}, pubsA Ĥ l = some (cc, l') → ∀ b, b ∈ slsOf l → ∃ k, Ĥ b = some k
  | [], l', cc, h, b, hb => by simp [slsOf] at hb
  | a :: r, l', cc, h, b, hb => by
    simp only [pubsA] at h
    split at h
    · rename_i c1 y c2 ys hy hys
      simp only [slsOf] at hb
      rcases List.mem_append.1 hb with hb | hb
      · exact pub_live hy b hb
      · exact pubs_live hys b hb
    · cases h
end

theorem view_congr {a : AV} (h : ∀ b, b ∈ slOf a → Ĥ b = H b) : viewA H a = viewA Ĥ a := by
  unfold viewA
  split
  · rename_i sz b o' n
    rw [h b (by simp [slOf])]
  · rfl
mutual
theorem pub_congr : ∀ {a : AV}, (∀ b, b ∈ slsA a → Ĥ b = H b) → pubA H a = pubA Ĥ a
  | .v _, _ => rfl
  | .ptr _ _, _ => rfl
  | .pe _ _ _ _, _ => rfl
  | .rs _ _ _ _, _ => rfl
  | .ep _ _ _ _ _, _ => rfl
  | .any, _ => rfl
  | .sl sz b0 o n, h => by
    simp only [pubA]
    exact view_congr (fun b hb => h b (by simpa [slsA, slOf] using hb))
  | .fn f x y, h => by
    simp only [pubA, pubs_congr (l := x) (fun b hb => h b (by simp only [slsA]; exact List.mem_append_left _ hb)), pubs_congr (l := y) (fun b hb => h b (by simp only [slsA]; exact List.mem_append_right _ hb))]
  | .agg l, h => by simp only [pubA, pubs_congr (l := l) (fun b hb => h b (by simpa only [slsA] using hb))]
  | .tup l, h => by simp only [pubA, pubs_congr (l := l) (fun b hb => h b (by simpa only [slsA] using hb))]
theorem pubs_congr : ∀ {l : List AV}, (∀ b, b ∈ slsOf l → Ĥ b = H b) → pubsA H l = pubsA Ĥ l
  | [], _ => rfl
  | a :: r, h => by
    simp only [pubsA, pub_congr (a := a) (fun b hb => h b (by simp only [slsOf]; exact List.mem_append_left _ hb)), pubs_congr (l := r) (fun b hb => h b (by simp only [slsOf]; exact List.mem_append_right _ hb))]
end

theorem look_kill (l : List Nat) (b : Nat) : look (l.map fun b => (b, (none : Option Blk))) b = if b ∈ l then some none else none := by
  induction l with
  | nil => rfl
  | cons a r ih =>
    by_cases h : a = b
    · subst h; simp [look_cons_self]
    · rw [List.map_cons, look_cons_ne _ _ h, ih]
      simp [Ne.symm h]

/-- The blocks whose slices are handed out go. -/
theorem kill_pub {l l' : List AV} {cc : List Prop} (hv : pubsA Ĥ l = some (cc, l')) (hcc : ∀ p ∈ cc, p) (hH : HRel O0 η Ĥ w) :
    HRel O0 η (hupd Ĥ (killA l)) w ∧ Kept (Own O0 η Ĥ) w (Own O0 η (hupd Ĥ (killA l))) w ∧ (∀ b, hupd Ĥ (killA l) b = if b ∈ slsOf l then none else Ĥ b) ∧ (∀ c, Own O0 η (hupd Ĥ (killA l)) c → Own O0 η Ĥ c) ∧ ∀ b, b ∈ slsOf l → ∀ c N, η b = some (c, N) → ¬ Own O0 η (hupd Ĥ (killA l)) c := by
  have hupd' : ∀ b, hupd Ĥ (killA l) b = if b ∈ slsOf l then none else Ĥ b := fun b => by
    unfold hupd killA
    rw [look_kill]
    split <;> simp_all
  obtain ⟨k1, k2⟩ := hH.kill (H' := hupd Ĥ (killA l)) (fun b k hb => by
    rw [hupd'] at hb
    split at hb
    · cases hb
    · exact hb)
  have hsub : ∀ c, Own O0 η (hupd Ĥ (killA l)) c → Own O0 η Ĥ c := fun c hc => by
    rcases hc with hc | ⟨b, k, N, q1, q2⟩
    · exact .inl hc
    · rw [hupd'] at q1
      split at q1
      · cases q1
      · exact .inr ⟨b, k, N, q1, q2⟩
  refine ⟨k1, k2, hupd', hsub, fun b hb c N hc ho => ?_⟩
  obtain ⟨kb, hkb⟩ := pubs_live hv b hb
  rcases ho with ho | ⟨b', k', N', q1, q2⟩
  · exact (hH.real hkb hc).1 ho
  · rw [hupd'] at q1
    split at q1
    · cases q1
    · rename_i hnot
      have := hH.inj b b' kb k' c N N' hkb q1 hc q2
      subst this
      exact hnot hb

theorem goes_behind {k : Heap} {v : AV} {uu : Heap} {m' : Nat} (hk : Kept (Own O0 η Ĥ) w (Own O0 η (hupd Ĥ k)) w) (h : Goes P o ρ w (Res O0 η (hupd Ĥ k) next w v uu m')) : Goes P o ρ w (Res O0 η Ĥ next w v (uu ++ k) m') := by
  unfold Goes at h ⊢
  generalize (execOp ρ o).run P w = rr at h ⊢
  cases rr with
  | halt y w' => exact h.elim
  | ok nn w' =>
    cases nn <;> simp only at h ⊢ <;> first
      | exact Res.behind hk h
      | exact h.elim
      | exact h.mono fun e w' ⟨x, hx, hr⟩ => ⟨x, hx, Res.behind hk hr⟩

theorem sound_storePub {t : TypeId} {x y : Operand} {sz b i j m z n : Nat} {a a' : AV} {f : Nat → List AV} {cc : List Prop} (ho : o.op = .store t x y) (hp : VRel w (Own O0 η Ĥ) η (.pe sz b i j) (ρ x)) (ha : VRel w (Own O0 η Ĥ) η a (ρ y)) (hv : pubA Ĥ a = some (cc, a')) (hcc : ∀ p ∈ cc, p) (hs : sizeT P t = some n) (hb : Ĥ b = some (.arr z m f))
    (hz : Nat.beq z sz = true) (hn : Nat.beq a'.cells.length n = true) (hle : Nat.ble (j + n) sz = true) (h1 : aOnes a'.cells = true) (hnot : (slsA a).contains b = false) (hi : i < m) (hH : HRel O0 η Ĥ w) :
    Goes P o ρ w (Res O0 η Ĥ next w (.v undef) ((b, some (.arr sz m (fun k => if k = i then setAt (f i) j a'.cells else f k))) :: killA [a]) next) := by
  have hv1 : pubsA Ĥ [a] = some (cc, [a']) := by simp [pubsA, hv]
  obtain ⟨k1, k2, k3, k4, k5⟩ := kill_pub hv1 hcc hH
  have hsl : slsOf [a] = slsA a := by simp [slsOf]
  have hbn : hupd Ĥ (killA [a]) b = some (.arr z m f) := by
    rw [k3, hsl, if_neg (by simpa using hnot)]
    exact hb
  have ha' : VRel w (Own O0 η (hupd Ĥ (killA [a]))) noEta a' (ρ y) := pub_relG hH rfl k4 ha rfl hv hcc (fun b hb => k5 b (by rw [hsl]; exact hb))
  generalize hxv : ρ x = xv at hp
  cases hp with
  | pe _ _ _ _ _ c N he =>
  exact goes_behind k2 (sound_storePe (z := z) (o := o) ho (by rw [hxv]; exact .pe _ _ _ _ _ c N he) ha' hs hbn hz hn hle h1 hi k1)

theorem pubPs_rel {O O' : Nat → Prop} (hH : HRel O0 η Ĥ w) (hO : O = Own O0 η Ĥ) (hO' : ∀ c, O' c → O c) : ∀ {l l' : List (Nat × AV)} {m : List (Nat × Value)} {cc : List Prop}, PRel w O η l m → pubPs Ĥ l = some (cc, l') → (∀ p ∈ cc, p) → (∀ b, b ∈ slsOf (avsP l) → ∀ c N, η b = some (c, N) → ¬ O' c) → PRel w O' noEta l' m
  | _, l', _, cc, .nil, h, _, _ => by simp only [pubPs, Option.some.injEq, Prod.mk.injEq] at h; obtain ⟨rfl, rfl⟩ := h; exact .nil
  | _, l', _, cc, .cons i a y l m h1 h2, h, hcc, hb => by
    simp only [pubPs] at h
    split at h
    · rename_i c1 x c2 xs hx hxs
      simp only [Option.some.injEq, Prod.mk.injEq] at h; obtain ⟨rfl, rfl⟩ := h
      exact .cons _ _ _ _ _ (pub_relG hH hO hO' h1 rfl hx (all_split hcc).1 (fun b hm => hb b (by simp only [avsP, slsOf]; exact List.mem_append_left _ hm))) (pubPs_rel hH hO hO' h2 hxs (all_split hcc).2 (fun b hm => hb b (by simp only [avsP, slsOf]; exact List.mem_append_right _ hm)))
    · cases h
theorem pubPs_avs : ∀ {l l' : List (Nat × AV)} {cc : List Prop}, pubPs Ĥ l = some (cc, l') → pubsA Ĥ (avsP l) = some (cc, avsP l')
  | [], l', cc, h => by simp only [pubPs, Option.some.injEq, Prod.mk.injEq] at h; obtain ⟨rfl, rfl⟩ := h; rfl
  | (i, a) :: r, l', cc, h => by
    simp only [pubPs] at h
    split at h
    · rename_i c1 x c2 xs hx hxs
      simp only [Option.some.injEq, Prod.mk.injEq] at h; obtain ⟨rfl, rfl⟩ := h
      simp only [avsP, pubsA, hx, pubPs_avs hxs]
    · cases h
theorem pubPs_congr : ∀ {l : List (Nat × AV)}, (∀ b, b ∈ slsOf (avsP l) → Ĥ b = H b) → pubPs H l = pubPs Ĥ l
  | [], _ => rfl
  | (i, a) :: r, h => by
    simp only [pubPs, pub_congr (a := a) (fun b hb => h b (by simp only [avsP, slsOf]; exact List.mem_append_left _ hb)), pubPs_congr (l := r) (fun b hb => h b (by simp only [avsP, slsOf]; exact List.mem_append_right _ hb))]

theorem sound_buildPub {t e : TypeId} {sz n : Nat} {ps : Array (Nat × Operand)} {l l' : List (Nat × AV)} {es : List (List AV)} {ze : List AV} {cc : List Prop} (ho : o.op = .buildSlice t n ps) (hu : P.underlying t = some (.slice e)) (hs : sizeT P e = some sz) (hz : zeroT P e = some ze) (hl : PRel w (Own O0 η Ĥ) η l (ps.toList.map fun (i, x) => (i, ρ x))) (hv : pubPs Ĥ l = some (cc, l')) (hcc : ∀ p ∈ cc, p) (hes : elemsA sz 0 l' = some es) (hlen : es.length = n) (hsmall : n * sz ≤ 10000)
    (hpos : 0 < sz) (hH : HRel O0 η Ĥ w) :
    Goes P o ρ w (Res O0 η Ĥ next w (.rs sz n (some n) (fun i => es.getD i [])) (killA (avsP l)) next) ∧ (η next = none → Goes P o ρ w (Res O0 η Ĥ next w (.sl sz next 0 n) ((next, some (.arr sz n (fun i => es.getD i []))) :: killA (avsP l)) (next + 1))) := by
  obtain ⟨k1, k2, k3, k4, k5⟩ := kill_pub (pubPs_avs hv) hcc hH
  have hl' := pubPs_rel hH rfl k4 hl hv hcc k5
  exact ⟨goes_behind k2 (sound_buildRs ho hu hs hz hl' hes hlen hsmall k1), fun hn => goes_behind k2 (sound_buildSl ho hu hs hz hl' hes hlen hsmall hpos k1 hn)⟩

theorem goes_enter {f : FuncId} {g : Operand} {as : Array Operand} {ts : Array TypeId} {first caps : List Value} {R : Value → World → Prop} (he : Entry P f) (ho : o.op = .call { callee := .value g, args := as, argTypes := ts }) (hg : ρ g = .func (.func f) first.toArray caps.toArray)
    (h : Calls P f (first ++ as.toList.map ρ ++ caps).toArray w fun e w' => ∃ x, e = .returned x ∧ R x w') : Goes P o ρ w R := by
  obtain ⟨fn, h1, h2, h3⟩ := he
  have hb : fn.body.isNone = false := by cases hh : fn.body <;> simp_all
  have hn : ¬ (fn.name == "runtime.NumGoroutine") = true := by simp [h2]
  have hargs : (first.toArray ++ as.map ρ ++ caps.toArray) = (first ++ as.toList.map ρ ++ caps).toArray := by apply Array.ext'; simp
  unfold Goes
  simp only [execOp, ho, resolve, hg, Deferred.ofValue, Sem.run_bind, Sem.run_pure, Result.andThen_ok, invoke, callFunc, run_program, h1, hb, hn, if_false, Bool.false_eq_true]
  rw [hargs]
  exact h

theorem sound_call {f : FuncId} {g : Operand} {as : Array Operand} {ts : Array TypeId} {first caps l l' : List AV} (he : Entry P f) (ho : o.op = .call { callee := .value g, args := as, argTypes := ts }) (hg : VRel w (Own O0 η Ĥ) η (.fn (.func f) first caps) (ρ g)) (hl : VRels w (Own O0 η Ĥ) η l (as.toList.map ρ))
    {cc : List Prop} (hv : pubsA Ĥ (first ++ l ++ caps) = some (cc, l')) (hcc : ∀ p ∈ cc, p) (hp : APure P f l' v) (hu : u = if v.flat = true then [] else killA (first ++ l ++ caps)) (hH : HRel O0 η Ĥ w) :
    Goes P o ρ w (Res O0 η Ĥ next w v u next) := by
  generalize hgv : ρ g = gv at hg
  cases hg with
  | fn _ _ _ _ xf xc h1 h2 =>
  have hall : VRels w (Own O0 η Ĥ) η (first ++ l ++ caps) (xf ++ as.toList.map ρ ++ xc) := (h1.append hl).append h2
  let O' : Nat → Prop := fun c => Own O0 η Ĥ c ∧ ∀ b, b ∈ slsOf (first ++ l ++ caps) → ∀ N, η b ≠ some (c, N)
  have hO' : ∀ c, O' c → Own O0 η Ĥ c := fun c hc => hc.1
  have hargs := pubs_relG hH rfl hO' hall rfl hv hcc (fun b hb c N hc ho' => ho'.2 b hb N hc)
  refine goes_enter he ho hgv ((hp w O' _ (fun c hc => own_lt hH hc.1) hargs).mono fun e w' ⟨x, hx, hxr, hlow⟩ => ⟨x, hx, ?_⟩)
  subst hu
  split
  · rename_i hflat
    exact ⟨η, EtaLe.refl η, fun _ _ => rfl, (hxr.refit hflat).ext η (fun b c N hb => by cases hb), hH.low hlow, Kept.low hlow fun c hc => .inl hc, hlow.mono (Nat.zero_le _), fun c hc => hlow.block c (hH.O0lt c hc)⟩
  · unfold killA
    have hupd' : ∀ b, hupd Ĥ ((slsOf (first ++ l ++ caps)).map fun b => (b, none)) b = if b ∈ slsOf (first ++ l ++ caps) then none else Ĥ b := fun b => by
      unfold hupd
      rw [look_kill]
      split <;> simp_all
    have hH' := hH.low hlow
    obtain ⟨k1, k2⟩ := hH'.kill (H' := hupd Ĥ ((slsOf (first ++ l ++ caps)).map fun b => (b, none))) (fun b k hb => by
      rw [hupd'] at hb
      split at hb
      · cases hb
      · exact hb)
    have hk0 : Kept (Own O0 η Ĥ) w (Own O0 η Ĥ) w' := Kept.low hlow fun c hc => .inl hc
    refine ⟨η, EtaLe.refl η, fun _ _ => rfl, (hxr.kept (Kept.less fun c hc => ?_)).ext η (fun b c N hb => by cases hb), k1, hk0.trans k2 hlow.size, hlow.mono (Nat.zero_le _), fun c hc => hlow.block c (hH.O0lt c hc)⟩
    rcases hc with hc | ⟨b, k, N, q1, q2⟩
    · refine ⟨.inl hc, fun b hb N hN => ?_⟩
      obtain ⟨kb, hkb⟩ := pubs_live hv b hb
      exact (hH.real hkb hN).1 hc
    · rw [hupd'] at q1
      split at q1
      · cases q1
      · rename_i hnot
        refine ⟨.inr ⟨b, k, N, q1, q2⟩, fun b' hb' N' hN' => ?_⟩
        obtain ⟨kb, hkb⟩ := pubs_live hv b' hb'
        have := hH.inj b b' k kb c N N' q1 hkb q2 hN'
        subst this
        exact hnot hb'
end
end Go.Ev
