import PyProof.Rows.All
import Wide.All
import OpenK.AllK
import Wide.FinOn
import PySem.Challenge.RW_k20_0015
set_option Elab.async false
namespace Mine
open PySem

/-- what a slice picks, as plain data -/
def pickD {α : Type} (ds : List α) (lo hi st : Option Int) : List α :=
  (sliceRange (sliceBounds lo hi st ds.length).1 (sliceBounds lo hi st ds.length).2.1 (sliceBounds lo hi st ds.length).2.2).filterMap (ds[·]?)

theorem filterMap_at {α : Type} (g : Nat → α) (N : Nat) : ∀ (l : List Nat), (∀ k ∈ l, k < N) → l.filterMap (((List.range N).map g)[·]?) = l.map g
  | [], _ => rfl
  | k :: l, h => by
    have hk : k < N := h k (.head _)
    have e : ((List.range N).map g)[k]? = some (g k) := by simp [hk]
    rw [List.filterMap_cons, e, List.map_cons, filterMap_at g N l fun x hx => h x (.tail _ hx)]

theorem sliceRange_step (j K c : Nat) (stop : Int) (hK : 0 < K) (hc : (if ((j : Int)) < stop then (stop - j + K - 1) / K else 0) = (c : Int)) :
    sliceRange j stop K = (List.range c).map fun i => i * K + j := by
  unfold sliceRange
  have hK' : (K : Int) > 0 := by omega
  simp only [hK', if_true]
  rw [hc]
  simp only [Int.toNat_natCast]
  refine List.map_congr_left fun i _ => ?_
  have : ((j : Int) + (K : Int) * (i : Int)) = ((i * K + j : Nat) : Int) := by rw [Int.natCast_add, Int.natCast_mul, Int.mul_comm, Int.add_comm]
  rw [this, Int.toNat_natCast]

def clipD (n : Nat) (i : Int) : Int := max 0 (min (if i < 0 then i + n else i) n)
def loD (n : Nat) : Option Int → Int
  | none => 0
  | some i => clipD n i
def hiD (n : Nat) : Option Int → Int
  | none => n
  | some i => clipD n i
theorem clipD_nat (n k : Nat) (h : k ≤ n) : clipD n (k : Int) = k := by unfold clipD; rw [if_neg (by omega)]; omega

theorem bounds_pos {lo hi : Option Int} {K : Nat} (hK : 0 < K) {n : Nat} {a b : Int} (hlo : loD n lo = a) (hhi : hiD n hi = b) :
    sliceBounds lo hi (some K) n = (a, b, (K : Int)) := by
  have hK' : (K : Int) > 0 := by omega
  subst hlo; subst hhi
  unfold sliceBounds
  simp only [Option.getD_some, hK', if_true]
  cases lo <;> cases hi <;> rfl

theorem bounds_one {lo hi : Option Int} {n : Nat} {a b : Int} (hlo : loD n lo = a) (hhi : hiD n hi = b) :
    sliceBounds lo hi none n = (a, b, 1) := by
  subst hlo; subst hhi
  unfold sliceBounds
  simp only [Option.getD_none, show (1 : Int) > 0 by decide, if_true]
  cases lo <;> cases hi <;> rfl

theorem count_step (j K R : Nat) (hj : j < K) : ((R * K : Nat) - (j : Int) + K - 1) / (K : Int) = (R : Int) := by
  have hK : (0 : Int) < K := by omega
  refine Int.le_antisymm ?_ ?_
  · refine Int.lt_add_one_iff.mp (Int.ediv_lt_of_lt_mul hK ?_)
    rw [Int.natCast_mul, Int.add_mul, Int.one_mul]; omega
  · refine Int.le_ediv_of_mul_le hK ?_
    rw [Int.natCast_mul]; omega

/-- flat[j : R*K : K] -/
theorem pick_step {α : Type} (g : Nat → α) (R K N j : Nat) (hj : j < K) (hN : R * K ≤ N) (hi : Option Int) (hhi : hiD N hi = ((R * K : Nat) : Int)) :
    pickD ((List.range N).map g) (some (j : Int)) hi (some (K : Int)) = (List.range R).map fun i => g (i * K + j) := by
  unfold pickD
  by_cases hR : R = 0
  · subst hR
    have ha : loD N (some (j : Int)) = ((min j N : Nat) : Int) := by show clipD N (j : Int) = _; unfold clipD; rw [if_neg (by omega)]; omega
    rw [List.length_map, List.length_range, bounds_pos (by omega) ha hhi]
    simp only [Nat.zero_mul]
    rw [sliceRange_step (min j N) K 0 _ (by omega) (by rw [if_neg (by omega)]; rfl)]
    rfl
  · have hle : K ≤ R * K := Nat.le_mul_of_pos_left K (by omega)
    have ha : loD N (some (j : Int)) = (j : Int) := clipD_nat N j (by omega)
    rw [List.length_map, List.length_range, bounds_pos (by omega) ha hhi]
    simp only
    rw [sliceRange_step j K R _ (by omega) (by rw [if_pos (by omega)]; exact count_step j K R hj), filterMap_at]
    · rw [List.map_map]; rfl
    · intro k hk
      obtain ⟨i, hi, rfl⟩ := List.mem_map.mp hk
      have hi' := List.mem_range.mp hi
      have : (i + 1) * K ≤ R * K := Nat.mul_le_mul_right K hi'
      rw [Nat.add_mul, Nat.one_mul] at this
      omega

/-- flat[a : a + K] -/
theorem pick_run' {α : Type} (g : Nat → α) (N a b K : Nat) (hb : a + K = b) (hN : b ≤ N) (lo hi : Option Int)
    (hlo : loD N lo = (a : Int)) (hhi : hiD N hi = (b : Int)) :
    pickD ((List.range N).map g) lo hi none = (List.range K).map fun j => g (a + j) := by
  unfold pickD
  rw [List.length_map, List.length_range, bounds_one hlo hhi]
  simp only
  rw [sliceRange_one, show b - a = K by omega, filterMap_at]
  · rw [List.map_map]; rfl
  · intro k hk
    obtain ⟨i, hi, rfl⟩ := List.mem_map.mp hk
    have hi' := List.mem_range.mp hi
    omega

theorem pick_all' {α : Type} (ds : List α) : pickD ds none none none = ds := by
  unfold pickD
  rw [bounds_one (a := ((0 : Nat) : Int)) (b := ds.length) rfl rfl]
  simp only
  rw [sliceRange_one, Nat.sub_zero]
  have : ((List.range ds.length).map (0 + ·)).filterMap (ds.toArray[·]?) = (ds.toArray.toList.drop 0).take ds.length := pick_run ds.toArray 0 ds.length
  simpa using this
end Mine

set_option maxRecDepth 100000
namespace Mine
open PySem PySem.Spec PySem.Calls PyProof.Rows PyProof.Rows.LCg

section
variable {prog : Program} {w : World} {A : Around} {E : Value → Shared → Prop} {s : Shared} {h₀ : Heap} {L : Addr} {m : Str → Option Value} {env : Env}

theorem restInv {elt : Expr} {x : Str} {scope : Scope} {cl : List (Str × Addr)} {S : List (Addr × Obj) → Prop} {P : Nat → Value → Prop} {Fin : List Value → List (Addr × Obj) → Prop} {n : Nat}
    (Inv : Nat → List Value → List (Addr × Obj) → Prop)
    (fin : ∀ ys news, Inv n ys news → Fin ys news)
    (step : ∀ i ys news, i < n → Inv i ys news → ∀ v I oI C oC D m₂ h tk (E' : Value → Shared → Prop), P i v → NsObj oC m₂ → m₂ x = some v → Fr h₀ L h m → News h₀ L h ((I, oI) :: (C, oC) :: (D, lst ys) :: news) → Off3 I C D news → ((@Ne Nat I C) ∧ (@Ne Nat I D) ∧ (@Ne Nat C D)) →
      wpAny (model prog w) A (eval elt (compEnvC scope cl C env)) (CompEnd h₀ L m { s with heap := h, toks := tk } I oI C oC D (lst ys) S (fun y news' => Inv (i + 1) (ys ++ [y]) news')) E' { s with heap := h, toks := tk }) :
    ∀ k i ys news, k + i = n → Inv i ys news → CompRest prog w A h₀ L m env elt x scope cl s S P Fin k i ys news := by
  intro k
  induction k with
  | zero =>
    intro i ys news e hi
    have e' : i = n := by omega
    subst e'
    exact fin ys news hi
  | succ k ih =>
    intro i ys news e hi v I oI C oC D m₂ h tk E' hP hC hx F N off ne
    refine wpAny_mono (step i ys news (by omega) hi v I oI C oC D m₂ h tk E' hP hC hx F N off ne) (fun y s₂ hy => ?_) fun _ _ x => x
    obtain ⟨h', tk', news', e', F', N', off', hS, r⟩ := hy
    exact ⟨h', tk', news', e', F', N', off', hS, ih (i + 1) _ _ (by omega) r⟩

theorem newEnv_cells {M : Model} {scope : Scope} {globals : Addr} {cl : List (Str × Addr)} {qual : Str} {around : Env} {Q : Env → Shared → Prop}
    (hQ : Q { scope := scope, locals := s.heap.objs.size, globals := globals, cells := cellsFrom (s.heap.objs.size + 1) scope.names cl, qual := qual, func := none, code := around.code, frame := around.frame, builtins := around.builtins }
      { s with heap := pushCells (s.heap.push { cls := .type "dict", data := .dict #[] }) scope.names }) :
    wpAny M A (newFunctionEnv scope globals cl [] qual none .none (some around)) Q E s := by
  simp only [newFunctionEnv, Option.isSome_some, if_true]
  refine wpAny_bind (wpAny_alloc ?_)
  refine wpAny_bind (wpAny_layCells _ (fun name kind cells => by cases hkc : kind == NameKind.cell <;> simp) _ _ _ _ ?_)
  rw [show ({ s with heap := s.heap.push { cls := .type "dict", data := .dict #[] } } : Shared).heap.objs.size = s.heap.objs.size + 1 from Heap.size_push ..]
  refine wpAny_bind ?_
  rw [List.forIn_nil]
  exact wpAny_pure (wpAny_pure hQ)

theorem lookup_relabel_cell {env : Env} : ∀ {names : List (Str × NameKind)} {x : Str}, names.lookup x = some .cell →
    (names.map fun (n, k) => if (k == NameKind.free && env.scope.kind == .function && env.kindOf n == some .cell) then (n, NameKind.cell) else (n, k)).lookup x = some .cell
  | [], _, h => by simp at h
  | (n, k) :: r, x, h => by
    rw [List.lookup_cons] at h
    rw [List.map_cons]
    cases hx : x == n with
    | true =>
      rw [hx] at h
      have hk : k = .cell := Option.some.inj h
      subst hk
      simp only [show ((NameKind.cell == NameKind.free) = false) from rfl, Bool.false_and, Bool.false_eq_true, if_false]
      rw [List.lookup_cons, hx]
    | false =>
      rw [hx] at h
      have ih := lookup_relabel_cell (env := env) h
      dsimp only
      by_cases hc : (k == NameKind.free && env.scope.kind == .function && env.kindOf n == some .cell) = true
      · rw [if_pos hc, List.lookup_cons, hx]; exact ih
      · rw [if_neg hc, List.lookup_cons, hx]; exact ih

def Off4 (I C c D : Addr) (nw : List (Addr × Obj)) : Prop := ∀ p ∈ nw, p.1 ≠ I ∧ p.1 ≠ C ∧ p.1 ≠ c ∧ p.1 ≠ D

theorem nn {a b : Nat} (h : a ≠ b) : a ≠ b := h
theorem block_cell {elt iter : Expr} {x : Str} {px : Pos} {scope : Scope} {cl : List (Str × Addr)} {pos : Pos} {s₂ : Shared} {I : Addr} {a : Int} {n : Nat} {news : List (Addr × Obj)}
    {RR : Value → Addr → Result → Shared → Prop} (Inv : Nat → List Value → List (Addr × Obj) → Prop)
    (hh : A.handled = none) (hsz : n ≤ sizeLine) (hkind : scope.kind = .function) (hx : scope.names.lookup x = some .cell)
    (hcells : ∀ k, cellsFrom k scope.names cl = (x, k) :: cl) (hpush : ∀ h, pushCells h scope.names = h.push { cls := .type "cell", data := .cell none })
    (hst : IsRangeIter s₂.heap I a n 1)
    (F : Fr h₀ L s₂.heap m) (N : News h₀ L s₂.heap news) (hIL : L ≠ I) (hI₀ : h₀.get? I = none) (off : ∀ p ∈ news, p.1 ≠ I) (h0 : Inv 0 [] news)
    (step : ∀ i ys nw t oI C oC c oc D h tk (E' : Value → Shared → Prop), i < n → Inv i ys nw → oc.data = .cell (some (.int (a + (i : Int)) t)) → Fr h₀ L h m → News h₀ L h ((I, oI) :: (C, oC) :: (c, oc) :: (D, lst ys) :: nw) → Off4 I C c D nw →
      ((@Ne Nat I C) ∧ (@Ne Nat I c) ∧ (@Ne Nat I D) ∧ (@Ne Nat C c) ∧ (@Ne Nat C D) ∧ (@Ne Nat c D)) →
      wpAny (model prog w) A (eval elt (compEnvC scope ((x, c) :: cl) C env)) (fun y s₄ => ∃ h' tk' nw', s₄ = { s₂ with heap := h', toks := tk' } ∧ Fr h₀ L h' m ∧ News h₀ L h' ((I, oI) :: (C, oC) :: (c, oc) :: (D, lst ys) :: nw') ∧ Off4 I C c D nw' ∧ Inv (i + 1) (ys ++ [y]) nw') E' { s₂ with heap := h, toks := tk })
    (hRR : ∀ D C h tk m' ys nw, Fr h₀ L h m → News h₀ L h ((D, lst ys) :: nw) → Off1 D nw → h.Ns C m' → h₀.get? C = none → C ≠ L → C ≠ D → (∀ p ∈ nw, p.1 ≠ C) → Inv n ys nw → RR (.ref D) C (.ok .next) { s₂ with heap := h, toks := tk }) :
    wpAny (model prog w) A (newList []) (fun acc s₃ => wpAny (model prog w) A (newFunctionEnv scope env.globals cl [] env.qual none .none (some env)) (fun cenv s₄ =>
      codeAny (model prog w) A (.compStart (.ListComp elt [⟨.Name x px, iter, [], 0⟩] scope pos) 0 (.ref I) acc { cenv with scope := relabel scope env }) (RR acc cenv.locals) s₄) E s₃) E s₂ := by
  refine wpAny_newObj_type (newEnv_cells ?_)
  dsimp only
  rw [hcells, hpush]
  generalize hH1 : s₂.heap.push { cls := .type "list", dict := none, data := .seq ([] : List Value).toArray } = H1
  have sH1 : H1.objs.size = s₂.heap.objs.size + 1 := by rw [← hH1, Heap.size_push]
  generalize hH2 : H1.push { cls := .type "dict", data := .dict #[] } = H2
  have sH2 : H2.objs.size = s₂.heap.objs.size + 2 := by rw [← hH2, Heap.size_push, sH1]
  generalize hH3 : H2.push { cls := .type "cell", data := .cell none } = H3
  rw [sH1]
  generalize hD : s₂.heap.objs.size = D at *
  have up : ∀ b o, s₂.heap.get? b = some o → H3.get? b = some o := fun b o e => by
    rw [← hH3, ← hH2, ← hH1]; exact Heap.get?_push_of_some _ (Heap.get?_push_of_some _ (Heap.get?_push_of_some _ e))
  have gD : H3.get? D = some (lst []) := by
    rw [← hH3, ← hH2]; refine Heap.get?_push_of_some _ (Heap.get?_push_of_some _ ?_)
    rw [← hH1, ← hD]; exact Heap.get?_push_size _ rfl
  have gC : H3.get? (D + 1) = some { cls := .type "dict", data := .dict #[] } := by
    rw [← hH3]; refine Heap.get?_push_of_some _ ?_
    rw [← hH2, ← sH1]; exact Heap.get?_push_size _ rfl
  have gc : H3.get? (D + 1 + 1) = some { cls := .type "cell", data := .cell none } := by
    rw [← hH3, show D + 1 + 1 = H2.objs.size by rw [sH2]]; exact Heap.get?_push_size _ rfl
  have fresh₀ : ∀ k, D ≤ k → h₀.get? k = none := fun k hk => by
    cases e : h₀.get? k with
    | none => rfl
    | some o' => have := Heap.lt_size (F.keep k o' e); rw [hD] at this; exact absurd this (Nat.not_lt.mpr hk)
  have hLD : @LT.lt Nat _ L D := hD ▸ F.ns.lt
  have hID : @LT.lt Nat _ I D := by
    have e : s₂.heap.get? I = some _ := hst
    have := Heap.lt_size e
    rwa [hD] at this
  have offD : ∀ p ∈ news, @LT.lt Nat _ p.1 D := fun p hp => hD ▸ Heap.lt_size (N p hp).1
  have NsC : NsObj ({ cls := .type "dict", data := .dict #[] } : Obj) (fun _ => none) := ⟨#[], _, rfl, fun e he => by simp at he, fun _ => rfl⟩
  have loop : codeAny (model prog w) A (.compLoop (.ListComp elt [⟨.Name x px, iter, [], 0⟩] scope pos) 0 (.ref I) (.ref D) (compEnvC scope ((x, D + 1 + 1) :: cl) (D + 1) env))
        (RR (.ref D) (D + 1)) { s₂ with heap := H3 } := by
    refine codeAny_compLoop_tests
      (fun k s' => ∃ h' tk i ys nw oC oc vc m', s' = { s₂ with heap := h', toks := tk } ∧ i ≤ n ∧ k = n + 1 - i ∧ ys.length = i ∧ IsRangeIter h' I (a + (i : Nat) * 1) ((n : Int) - (i : Nat)) 1 ∧ Fr h₀ L h' m ∧
        oc.data = .cell vc ∧ NsObj oC m' ∧ News h₀ L h' ((D + 1, oC) :: (D + 1 + 1, oc) :: (D, lst ys) :: nw) ∧ Off4 I (D + 1) (D + 1 + 1) D nw ∧ Inv i ys nw) ?_ (n + 1)
      ⟨H3, _, 0, [], news, { cls := .type "dict", data := .dict #[] }, { cls := .type "cell", data := .cell none }, none, _, rfl, Nat.zero_le _, rfl, rfl, ?_, F.keeps up, rfl, NsC, fun p hp => ?_, fun p hp => ?_, h0⟩
    · rintro k s' ⟨h', tk, i, ys, nw, oC, oc, vc, m', rfl, hi, rfl, hyl, hit, F', hoc, hoC, N', off', hInv⟩
      have W := range_walks (prog := prog) (w := w) (A := A) (I := I) hh a n
      have NC := N' (D + 1, oC) List.mem_cons_self
      have Nc := N' (D + 1 + 1, oc) (List.mem_cons_of_mem _ List.mem_cons_self)
      have ND := N' (D, lst ys) (List.mem_cons_of_mem _ (List.mem_cons_of_mem _ List.mem_cons_self))
      have Nn : News h₀ L h' nw := fun p hp => N' p (List.mem_cons_of_mem _ (List.mem_cons_of_mem _ (List.mem_cons_of_mem _ hp)))
      by_cases hlt : i < n
      · refine W.item i _ _ _ hlt hit fun v h₂ tk₂ hPv hst₂ hk₂ => ?_
        obtain ⟨t, rfl⟩ := hPv
        have kp : ∀ b o, b ≠ I → h'.get? b = some o → h₂.get? b = some o := fun b o hb e => hk₂ b o (by simpa using hb) e
        refine wpAny_assign_Name (wpAny_storeName_cell (by simp [compEnvC, relabel, hkind]) (lookup_relabel_cell hx) (c := D + 1 + 1) (by simp [compEnvC]) (v₀ := vc) ⟨oc, kp _ _ (nn (by omega)) Nc.1, hoc⟩ fun h₃ hc₃ hs₃ => ?_)
        refine wpAny_tests_nil ?_
        simp only [if_true]
        obtain ⟨oc', hoc', hdc'⟩ := hc₃
        have eI : h₂.get? I = some _ := hst₂
        have eI₃ := (hs₃.2 I (nn (by omega))).trans eI
        have F₃ : Fr h₀ L h₃ m := (fr_but F' hk₂ hIL hI₀).change hs₃ (nn (by omega)) (fresh₀ _ (by omega))
        have N₃ : News h₀ L h₃ ((I, _) :: (D + 1, oC) :: (D + 1 + 1, oc') :: (D, lst ys) :: nw) := fun p hp => by
          rcases List.mem_cons.mp hp with rfl | hp
          · exact ⟨eI₃, Ne.symm hIL, hI₀⟩
          · rcases List.mem_cons.mp hp with rfl | hp
            · exact ⟨(hs₃.2 _ (nn (by dsimp only; omega))).trans (kp _ _ (nn (by dsimp only; omega)) NC.1), NC.2⟩
            · rcases List.mem_cons.mp hp with rfl | hp
              · exact ⟨hoc', Nc.2⟩
              · rcases List.mem_cons.mp hp with rfl | hp
                · exact ⟨(hs₃.2 _ (nn (by dsimp only; omega))).trans (kp _ _ (nn (by dsimp only; omega)) ND.1), ND.2⟩
                · have q := off' p hp
                  exact ⟨(hs₃.2 _ q.2.2.1).trans (kp _ _ q.1 (Nn p hp).1), (Nn p hp).2⟩
        refine wpAny_mono (step i ys nw t _ (D + 1) oC (D + 1 + 1) oc' D h₃ _ _ hlt hInv hdc' F₃ N₃ off' ⟨nn (by omega), nn (by omega), nn (by omega), nn (by omega), nn (by omega), nn (by omega)⟩) (fun y s₄ h₄ => ?_) fun _ _ e => e
        obtain ⟨h₄, tk₄, nw₄, rfl, F₄, N₄, off₄, inv₄⟩ := h₄
        have zI := (N₄ _ List.mem_cons_self).1
        have zC := (N₄ (D + 1, oC) (List.mem_cons_of_mem _ List.mem_cons_self))
        have zc := (N₄ (D + 1 + 1, oc') (List.mem_cons_of_mem _ (List.mem_cons_of_mem _ List.mem_cons_self)))
        have zD := (N₄ (D, lst ys) (List.mem_cons_of_mem _ (List.mem_cons_of_mem _ (List.mem_cons_of_mem _ List.mem_cons_self))))
        have zn : News h₀ L h₄ nw₄ := fun p hp => N₄ p (List.mem_cons_of_mem _ (List.mem_cons_of_mem _ (List.mem_cons_of_mem _ (List.mem_cons_of_mem _ hp))))
        refine append_at (hsz := by show ys.toArray.size ≤ sizeLine; rw [List.size_toArray, hyl]; exact Nat.le_trans hi hsz) zD.1 fun h₅ hs₅ hD₅ => ?_
        refine ⟨n + 1 - (i + 1), by omega, h₅, tk₄, i + 1, ys ++ [y], nw₄, oC, oc', _, m', rfl, hlt, rfl, by rw [List.length_append, List.length_singleton, hyl], ?_, F₄.change hs₅ (nn (by omega)) (fresh₀ _ (Nat.le_refl _)), hdc', hoC, fun p hp => ?_, off₄, inv₄⟩
        · show h₅.get? I = some _
          exact (hs₅.2 I (nn (by omega))).trans zI
        · rcases List.mem_cons.mp hp with rfl | hp
          · exact ⟨(hs₅.2 _ (nn (by dsimp only; omega))).trans zC.1, zC.2⟩
          · rcases List.mem_cons.mp hp with rfl | hp
            · exact ⟨(hs₅.2 _ (nn (by dsimp only; omega))).trans zc.1, zc.2⟩
            · rcases List.mem_cons.mp hp with rfl | hp
              · exact ⟨hD₅.trans (congrArg some (lst_snoc ys y)), zD.2⟩
              · exact ⟨(hs₅.2 _ (off₄ p hp).2.2.2).trans (zn p hp).1, (zn p hp).2⟩
      · obtain rfl : i = n := Nat.le_antisymm hi (Nat.not_lt.mp hlt)
        refine W.done _ _ _ hit fun h₂ tk₂ hk₂ => ?_
        have kp : ∀ b o, b ≠ I → h'.get? b = some o → h₂.get? b = some o := fun b o hb e => hk₂ b o (by simpa using hb) e
        refine hRR D (D + 1) h₂ tk₂ m' ys nw (fr_but F' hk₂ hIL hI₀) (fun p hp => ?_) ?_ (hoC.ns (kp _ _ (nn (by omega)) NC.1)) (fresh₀ _ (by omega)) (nn (by omega)) (nn (by omega)) (fun p hp => (off' p hp).2.1) hInv
        · rcases List.mem_cons.mp hp with rfl | hp
          · exact ⟨kp _ _ (nn (by dsimp only; omega)) ND.1, ND.2⟩
          · exact ⟨kp _ _ (off' p hp).1 (Nn p hp).1, (Nn p hp).2⟩
        · exact (Off3.of (I := I) (C := D + 1) fun p hp => ⟨(off' p hp).1, (off' p hp).2.1, (off' p hp).2.2.2⟩).one
    · have e : s₂.heap.get? I = some _ := hst
      show IsRangeIter H3 I (a + ((0 : Nat) : Int) * 1) ((n : Int) - ((0 : Nat) : Int)) 1
      rw [show a + ((0 : Nat) : Int) * 1 = a by omega, show (n : Int) - ((0 : Nat) : Int) = n by omega]
      exact up _ _ e
    · rcases List.mem_cons.mp hp with rfl | hp
      · exact ⟨gC, nn (by dsimp only; omega), fresh₀ _ (by omega)⟩
      · rcases List.mem_cons.mp hp with rfl | hp
        · exact ⟨gc, nn (by dsimp only; omega), fresh₀ _ (by omega)⟩
        · rcases List.mem_cons.mp hp with rfl | hp
          · exact ⟨gD, nn (by dsimp only; omega), fresh₀ _ (Nat.le_refl _)⟩
          · exact ⟨up _ _ (N p hp).1, (N p hp).2⟩
    · have q := offD p hp
      exact ⟨off p hp, nn (by omega), nn (by omega), nn (by omega)⟩
  have eI : H3.get? I = some _ := up _ _ hst
  exact codeAny_compStart_list loop (wpAny_pyIter_rangeiter (x := a) (left := n) (step := 1) eI loop)

def CellSrc (prog : Program) (w : World) (A : Around) (h₀ : Heap) (L : Addr) (m : Str → Option Value) (env : Env) (elt : Expr) (x : Str) (scope : Scope) (cl : List (Str × Addr)) (Q : Value → Shared → Prop) (xv : Value) (s₁ : Shared) : Prop :=
  ∃ r a b t u v n news, ∃ Inv : Nat → List Value → List (Addr × Obj) → Prop, xv = .ref r ∧ A.handled = none ∧ Fr h₀ L s₁.heap m ∧ News h₀ L s₁.heap news ∧ IsRange s₁.heap r a b 1 t u v ∧ Builtin.Range.small a b 1 = true ∧ Builtin.Range.rangeSize a b 1 = ((n : Nat) : Int) ∧ n ≤ sizeLine ∧ Inv 0 [] news ∧
    (∀ i ys nw t I oI C oC c oc D h tk (E' : Value → Shared → Prop), i < n → Inv i ys nw → oc.data = .cell (some (.int (a + (i : Int)) t)) → Fr h₀ L h m → News h₀ L h ((I, oI) :: (C, oC) :: (c, oc) :: (D, lst ys) :: nw) → Off4 I C c D nw →
      ((@Ne Nat I C) ∧ (@Ne Nat I c) ∧ (@Ne Nat I D) ∧ (@Ne Nat C c) ∧ (@Ne Nat C D) ∧ (@Ne Nat c D)) →
      wpAny (model prog w) A (eval elt (compEnvC scope ((x, c) :: cl) C env)) (fun y s₄ => ∃ h' tk' nw', s₄ = { s₁ with heap := h', toks := tk' } ∧ Fr h₀ L h' m ∧ News h₀ L h' ((I, oI) :: (C, oC) :: (c, oc) :: (D, lst ys) :: nw') ∧ Off4 I C c D nw' ∧ Inv (i + 1) (ys ++ [y]) nw') E' { s₁ with heap := h, toks := tk }) ∧
    (∀ ys nw D h tk, Inv n ys nw → Fr h₀ L h m → News h₀ L h ((D, lst ys) :: nw) → Off1 D nw → Q (.ref D) { s₁ with heap := h, toks := tk })

theorem ListComp_cell {elt iter : Expr} {x : Str} {px : Pos} {scope : Scope} {cl : List (Str × Addr)} {pos : Pos} {Q : Value → Shared → Prop}
    (hclos : closureFor scope env = pure cl) (hkind : scope.kind = .function)
    (hnames : ∀ y ∈ scope.names, y.2 = .local → scope.names.lookup y.1 = some .local) (hx : scope.names.lookup x = some .cell)
    (hcells : ∀ k, cellsFrom k scope.names cl = (x, k) :: cl) (hpush : ∀ h, pushCells h scope.names = h.push { cls := .type "cell", data := .cell none })
    (h : wpAny (model prog w) A (eval iter env) (CellSrc prog w A h₀ L m env elt x scope cl Q) E s)
    (hs : ∀ x, foldedSetIterable iter env x = pure x := by intro _; rfl) :
    wpAny (model prog w) A (eval (.ListComp elt [⟨.Name x px, iter, [], 0⟩] scope pos) env) Q E s := by
  rw [eval_ListComp]
  refine wpAny_comprehension_free (use := none) rfl hs hclos hkind hnames (wpAny_mono h (fun xv s₁ h₁ => ?_) fun _ _ e => e)
  obtain ⟨r, a, b, t, u, v, n, news, Inv, rfl, hh, F, N, hr, hsm, hn, hsz, h0, step, fin⟩ := h₁
  refine wpAny_pyIter_range hr hsm ?_
  have up : ∀ b' o, s₁.heap.get? b' = some o → (s₁.heap.push { cls := .type "range_iterator", data := .fields #[rawInt a, rawInt (Builtin.Range.rangeSize a b 1), rawInt 1] }).get? b' = some o := fun _ _ e => Heap.get?_push_of_some _ e
  refine block_cell Inv hh hsz hkind hx hcells hpush (a := a) (by show IsRangeIter _ _ _ _ _; rw [hn]; exact Heap.get?_push_size _ rfl)
    (F.keeps up) (N.grown up) (Nat.ne_of_lt F.ns.lt) (next_is_new F) (fun p hp => Nat.ne_of_lt (Heap.lt_size (N p hp).1)) h0 ?_ ?_
  · intro i ys nw t oI C oC c oc D h tk E' hi hI hc F' N' o' ne'
    exact step i ys nw t _ oI C oC c oc D h tk E' hi hI hc F' N' o' ne'
  · intro D C h tk m' ys nw F' N' o1 hn' hC₀ hCL hCD offC hI
    refine ⟨m', hn', fun h'' hs'' => fin ys nw D h'' tk hI (F'.change hs'' hCL hC₀) (fun p hp => ?_) o1⟩
    refine ⟨hs''.extBut _ _ ?_ (N' p hp).1, (N' p hp).2⟩
    rcases List.mem_cons.mp hp with rfl | hp
    · exact Ne.symm hCD
    · exact offC p hp

def Off2 (I c : Addr) (nw : List (Addr × Obj)) : Prop := ∀ p ∈ nw, p.1 ≠ I ∧ p.1 ≠ c

def TurnC (h₀ : Heap) (L : Addr) (I : Addr) (oI : Obj) (c : Addr) (oc : Obj) (s₁ : Shared) (J : (Str → Option Value) → List (Addr × Obj) → Prop) (Q : Flow → Shared → Prop) (f : Flow) (s₃ : Shared) : Prop :=
  match f with
  | .ret v => Q (.ret v) s₃
  | .brk => Q .next s₃
  | _ => ∃ h' tk' m' nw', s₃ = { s₁ with heap := h', toks := tk' } ∧ Fr h₀ L h' m' ∧ News h₀ L h' ((I, oI) :: (c, oc) :: nw') ∧ Off2 I c nw' ∧ J m' nw'

def ForCellSrc (prog : Program) (w : World) (A : Around) (h₀ : Heap) (env : Env) (c : Addr) (body : List Stmt) (Q : Flow → Shared → Prop) (E : Value → Shared → Prop) (xv : Value) (s₁ : Shared) : Prop :=
  ∃ r a b t u v n news m₀ oc₀ vc₀, ∃ Inv : Nat → (Str → Option Value) → List (Addr × Obj) → Prop, xv = .ref r ∧ A.handled = none ∧ Fr h₀ env.locals s₁.heap m₀ ∧ News h₀ env.locals s₁.heap ((c, oc₀) :: news) ∧ oc₀.data = .cell vc₀ ∧ (∀ p ∈ news, p.1 ≠ c) ∧
    IsRange s₁.heap r a b 1 t u v ∧ Builtin.Range.small a b 1 = true ∧ Builtin.Range.rangeSize a b 1 = ((n : Nat) : Int) ∧ Inv 0 m₀ news ∧
    (∀ i m₁ nw t I oI oc h tk, i < n → Inv i m₁ nw → oc.data = .cell (some (.int (a + (i : Int)) t)) → Fr h₀ env.locals h m₁ → News h₀ env.locals h ((I, oI) :: (c, oc) :: nw) → Off2 I c nw → (@Ne Nat I c) →
      wpAny (model prog w) A (execs body env) (TurnC h₀ env.locals I oI c oc s₁ (Inv (i + 1)) Q) E { s₁ with heap := h, toks := tk }) ∧
    (∀ m₁ nw oc vc h tk, Inv n m₁ nw → oc.data = .cell vc → Fr h₀ env.locals h m₁ → News h₀ env.locals h ((c, oc) :: nw) → (∀ p ∈ nw, p.1 ≠ c) → Q .next { s₁ with heap := h, toks := tk })

theorem For_cell {Q : Flow → Shared → Prop} {x : Str} {px pos : Pos} {iter : Expr} {body : List Stmt} {c : Addr} (hk : env.scope.kind = .function) (hx : env.kindOf x = some .cell) (hc : env.cells.lookup x = some c)
    (h : wpAny (model prog w) A (eval iter env) (fun xv s₁ => ForCellSrc prog w A h₀ env c body Q E xv s₁) E s)
    (hE : PassesOwn (model prog w) A env E)
    (hs : ∀ x, foldedSetIterable iter env x = pure x := by intro _; rfl) :
    wpAny (model prog w) A (exec (.For (.Name x px) iter body [] pos) env) Q E s := by
  refine wpAny_For (wpAny_mono h (fun xv s₁ h₁ => ?_) fun _ _ e => e) hs
  obtain ⟨r, a, b, t, u, v, n, news, m₀, oc₀, vc₀, Inv, rfl, hh, F, N, hoc₀, offc, hr, hsm, hn, h0, step, fin⟩ := h₁
  refine wpAny_pyIter_range hr hsm ?_
  have hcell := N (c, oc₀) List.mem_cons_self
  generalize hI : s₁.heap.objs.size = I
  have up : ∀ b' o, s₁.heap.get? b' = some o → (s₁.heap.push { cls := .type "range_iterator", data := .fields #[rawInt a, rawInt (Builtin.Range.rangeSize a b 1), rawInt 1] }).get? b' = some o := fun _ _ e => Heap.get?_push_of_some _ e
  have hI₀ : h₀.get? I = none := hI ▸ next_is_new F
  have hIL : env.locals ≠ I := hI ▸ Nat.ne_of_lt F.ns.lt
  have hIc : I ≠ c := hI ▸ Ne.symm (Nat.ne_of_lt (Heap.lt_size hcell.1))
  have W := range_walks (prog := prog) (w := w) (A := A) (I := I) hh a n
  refine codeAny_forLoop
    (fun k s' => ∃ h' tk i m₁ nw oc vc, s' = { s₁ with heap := h', toks := tk } ∧ i ≤ n ∧ k = n + 1 - i ∧ IsRangeIter h' I (a + (i : Nat) * 1) ((n : Int) - (i : Nat)) 1 ∧ Fr h₀ env.locals h' m₁ ∧
      oc.data = .cell vc ∧ News h₀ env.locals h' ((c, oc) :: nw) ∧ Off2 I c nw ∧ Inv i m₁ nw) ?_ (n + 1)
    ⟨_, _, 0, m₀, news, oc₀, vc₀, rfl, Nat.zero_le _, rfl, ?_, F.keeps up, hoc₀, N.grown up, fun p hp => ⟨?_, offc p hp⟩, h0⟩
  · rintro k s' ⟨h', tk, i, m₁, nw, oc, vc, rfl, hi, rfl, hit, F', hoc, N', off', hInv⟩
    have Nc := N' (c, oc) List.mem_cons_self
    by_cases hlt : i < n
    · refine W.item i _ _ _ hlt hit fun v h₂ tk₂ hPv hst₂ hk₂ => ?_
      obtain ⟨t, rfl⟩ := hPv
      have kp : ∀ b o, b ≠ I → h'.get? b = some o → h₂.get? b = some o := fun b o hb e => hk₂ b o (by simpa using hb) e
      refine wpAny_assign_Name (wpAny_storeName_cell hk hx hc (v₀ := vc) ⟨oc, kp _ _ (Ne.symm hIc) Nc.1, hoc⟩ fun h₃ hc₃ hs₃ => ?_)
      obtain ⟨oc', hoc', hdc'⟩ := hc₃
      obtain ⟨oI, eI, backI⟩ : ∃ oI, h₂.get? I = some oI ∧ ∀ h' : Heap, h'.get? I = some oI → IsRangeIter h' I (a + ((i + 1 : Nat) : Int) * 1) ((n : Int) - ((i + 1 : Nat) : Int)) 1 := ⟨_, hst₂, fun _ e => e⟩
      have eI₃ := (hs₃.2 I hIc).trans eI
      have F₃ : Fr h₀ env.locals h₃ m₁ := (fr_but F' hk₂ hIL hI₀).change hs₃ Nc.2.1 Nc.2.2
      have N₃ : News h₀ env.locals h₃ ((I, oI) :: (c, oc') :: nw) := fun p hp => by
        rcases List.mem_cons.mp hp with rfl | hp
        · exact ⟨eI₃, Ne.symm hIL, hI₀⟩
        · rcases List.mem_cons.mp hp with rfl | hp
          · exact ⟨hoc', Nc.2⟩
          · have z := N' p (List.mem_cons_of_mem _ hp)
            exact ⟨(hs₃.2 _ (off' p hp).2).trans (kp _ _ (off' p hp).1 z.1), z.2⟩
      refine wpAny_passesOwn hE (wpAny_mono (step i m₁ nw t I oI oc' h₃ _ hlt hInv hdc' F₃ N₃ off' hIc) (fun f s₃ h₃' => ?_) fun _ _ e => e)
      have fin' : (∃ h' tk' m' nw', s₃ = { s₁ with heap := h', toks := tk' } ∧ Fr h₀ env.locals h' m' ∧ News h₀ env.locals h' ((I, oI) :: (c, oc') :: nw') ∧ Off2 I c nw' ∧ Inv (i + 1) m' nw') →
          ∃ k', k' < n + 1 - i ∧ ∃ h' tk i m₁ nw oc vc, s₃ = { s₁ with heap := h', toks := tk } ∧ i ≤ n ∧ k' = n + 1 - i ∧ IsRangeIter h' I (a + (i : Nat) * 1) ((n : Int) - (i : Nat)) 1 ∧ Fr h₀ env.locals h' m₁ ∧
            oc.data = .cell vc ∧ News h₀ env.locals h' ((c, oc) :: nw) ∧ Off2 I c nw ∧ Inv i m₁ nw := by
        rintro ⟨h₄, tk₄, m₄, nw₄, rfl, F₄, N₄, off₄, inv₄⟩
        exact ⟨n + 1 - (i + 1), by omega, h₄, tk₄, i + 1, m₄, nw₄, oc', _, rfl, hlt, rfl, backI _ (N₄ _ List.mem_cons_self).1, F₄, hdc', fun p hp => N₄ p (List.mem_cons_of_mem _ hp), off₄, inv₄⟩
      cases f with
      | ret v => exact h₃'
      | brk => exact h₃'
      | cont => exact fin' h₃'
      | next => exact fin' h₃'
    · obtain rfl : i = n := Nat.le_antisymm hi (Nat.not_lt.mp hlt)
      refine W.done _ _ _ hit fun h₂ tk₂ hk₂ => wpAny_execs_nil ?_
      have kp : ∀ b o, b ≠ I → h'.get? b = some o → h₂.get? b = some o := fun b o hb e => hk₂ b o (by simpa using hb) e
      refine fin m₁ nw oc vc h₂ tk₂ hInv hoc (fr_but F' hk₂ hIL hI₀) (fun p hp => ?_) fun p hp => (off' p hp).2
      rcases List.mem_cons.mp hp with rfl | hp
      · exact ⟨kp _ _ (Ne.symm hIc) Nc.1, Nc.2⟩
      · have z := N' p (List.mem_cons_of_mem _ hp)
        exact ⟨kp _ _ (off' p hp).1 z.1, z.2⟩
  · show IsRangeIter _ I (a + ((0 : Nat) : Int) * 1) ((n : Int) - ((0 : Nat) : Int)) 1
    rw [show a + ((0 : Nat) : Int) * 1 = a by omega, show (n : Int) - ((0 : Nat) : Int) = n by omega, ← hI, ← hn]
    exact Heap.get?_push_size _ rfl
  · exact hI ▸ Nat.ne_of_lt (Heap.lt_size (N p (List.mem_cons_of_mem _ hp)).1)
end
end Mine

set_option maxRecDepth 100000
namespace Mine
open PySem PySem.W PySem.Spec PySem.Calls PyProof.Rows

theorem datAll_get? {news : List (Addr × Obj)} {vs : List Value} {ds : List Dat} (h : DatAll news vs ds) (k : Nat) : (∃ v d, vs[k]? = some v ∧ ds[k]? = some d ∧ DatIn news v d) ∨ (vs[k]? = none ∧ ds[k]? = none) := by
  by_cases hk : k < ds.length
  · obtain ⟨v, hv, hd⟩ := h.get hk
    exact .inl ⟨v, _, hv, List.getElem?_eq_getElem hk, hd⟩
  · have hl := h.length
    exact .inr ⟨List.getElem?_eq_none (by omega), List.getElem?_eq_none (by omega)⟩

theorem datAll_idx {news : List (Addr × Obj)} {vs : List Value} {ds : List Dat} (h : DatAll news vs ds) : ∀ idx : List Nat, DatAll news (idx.filterMap (vs.toArray[·]?)) (idx.filterMap (ds[·]?))
  | [] => .nil
  | k :: idx => by
    have ih := datAll_idx h idx
    rcases datAll_get? h k with ⟨v, d, hv, hd, hi⟩ | ⟨hv, hd⟩
    · have hv' : vs.toArray[k]? = some v := by simpa using hv
      rw [List.filterMap_cons, List.filterMap_cons, hv', hd]
      exact .cons hi ih
    · have hv' : vs.toArray[k]? = none := by simpa using hv
      rw [List.filterMap_cons, List.filterMap_cons, hv', hd]
      exact ih

theorem datAll_pick {news : List (Addr × Obj)} {vs : List Value} {ds : List Dat} (h : DatAll news vs ds) (lo hi st : Option Int) : DatAll news (slicePick vs.toArray lo hi st).toList (pickD ds lo hi st) := by
  unfold slicePick pickD
  rw [List.size_toArray, h.length]
  exact datAll_idx h _

section
variable {prog : Program} {w : World} {A : Around} {E : Value → Shared → Prop} {s : Shared} {h₀ : Heap} {L l : Addr} {m : Str → Option Value} {news : List (Addr × Obj)} {value slice : PySem.Expr} {vs : List Value} {nn : Nat} {Q : Value → Shared → Prop}

theorem item_dat {ds : List Dat} {k : Int} {u : Tok} {d : Dat} (hm : s.heap.IsList l vs.toArray) (hd : DatAll news vs ds) (h0 : 0 ≤ k) (hhi : k < 2 ^ 63) (hk : ds[k.toNat]? = some d)
    (h : ∀ v, vs[k.toNat]? = some v → DatIn news v d → Q v s)
    (hs : subscripted slice false (.ref l) (.int k u) = operate [.ref l, .int k u] (getItem (.ref l) (.int k u)) := by with_unfolding_all rfl) :
    wpAny (model prog w) A (subscriptTail value slice (.ref l) (.int k u)) Q E s := by
  rcases datAll_get? hd k.toNat with ⟨v, d', hv, hd', hi⟩ | ⟨_, hn⟩
  · rw [hk] at hd'
    cases hd'
    exact tail_any hm.typeIs slot_list_getitem.lookup (wpAny_getItem_list hm h0 hhi (by simpa using hv) (h v hv hi)) hs
  · rw [hk] at hn; cases hn

theorem slice_dat {lo hi : Option Int} {vl vu : Value} {ds es : List Dat} {tl : List (Addr × Obj)} (F : Fr h₀ L s.heap m) (N : News h₀ L s.heap news) (hl : s.heap.IsList l vs.toArray) (pl : IsPart vl lo) (pu : IsPart vu hi) (hd : DatAll tl vs ds) (he : pickD ds lo hi none = es)
    (h : ∀ D ys h', Fr h₀ L h' m → News h₀ L h' ((D, listOf (List.toArray ys) 0) :: news) → (∀ p ∈ news, p.1 < D) → DatAll tl ys es → Q (.ref D) { s with heap := h' })
    (hs : subscripted slice false (.ref l) (.ref s.heap.objs.size) = operate [.ref s.heap.objs.size, .ref l] (getItem (.ref l) (.ref s.heap.objs.size))) (ht : ∀ r, letTemporaryGo value (.ref l) r = pure ()) (hz : vs.length ≤ sizeLine) :
    wpAny (model prog w) A (subscriptTail value slice (.ref l) (.ref s.heap.objs.size)) Q E { s with heap := s.heap.push { cls := .type "slice", data := .fields #[vl, vu, .none] } } := by
  refine kmk_slice F N hl pl pu (fun D h' F' N' l1 => h D (slicePick vs.toArray lo hi none).toList h' F' ?_ l1 (he ▸ datAll_pick hd _ _ _)) hs ht (by simpa using hz)
  rw [Array.toArray_toList]
  exact N'

theorem slice_dat3 {lo hi st : Option Int} {vl vu vk : Value} {ds es : List Dat} {tl : List (Addr × Obj)} {ops : List Value} (F : Fr h₀ L s.heap m) (N : News h₀ L s.heap news) (hl : s.heap.IsList l vs.toArray) (pl : IsPart vl lo) (pu : IsPart vu hi) (pk : IsPart vk st) (hst : st ≠ some 0) (hd : DatAll tl vs ds) (he : pickD ds lo hi st = es)
    (h : ∀ D ys h', Fr h₀ L h' m → News h₀ L h' ((D, listOf (List.toArray ys) 0) :: news) → (∀ p ∈ news, p.1 < D) → DatAll tl ys es → Q (.ref D) { s with heap := h' })
    (hs : subscripted slice false (.ref l) (.ref s.heap.objs.size) = operate ops (getItem (.ref l) (.ref s.heap.objs.size))) (ht : ∀ r, letTemporaryGo value (.ref l) r = pure ()) (hz : vs.length ≤ sizeLine) :
    wpAny (model prog w) A (subscriptTail value slice (.ref l) (.ref s.heap.objs.size)) Q E { s with heap := s.heap.push { cls := .type "slice", data := .fields #[vl, vu, vk] } } := by
  refine kmk_slice3_lit (zs := (slicePick vs.toArray lo hi st).toList) F N hl pl pu pk hst rfl (fun D h' F' N' l1 => h D _ h' F' N' l1 (he ▸ datAll_pick hd _ _ _)) hs ht (by simpa using hz)
end
end Mine

set_option maxRecDepth 100000
namespace Mine
open PySem PySem.W PySem.Spec PySem.Calls PyProof.Rows PyProof.Rows.LCg

/-- a pure piece of code: the ledger is grown by new objects alone -/
def Made (h₀ : Heap) (L : Addr) (m : Str → Option Value) (s : Shared) (news : List (Addr × Obj)) (G : Value → List (Addr × Obj) → Prop) (y : Value) (s₂ : Shared) : Prop :=
  ∃ h' tk add, s₂ = { s with heap := h', toks := tk } ∧ Fr h₀ L h' m ∧ News h₀ L h' (news ++ add) ∧ (∀ p ∈ add, ∀ q ∈ news, p.1 ≠ q.1) ∧ G y add

theorem Made.intro {h₀ : Heap} {L : Addr} {m : Str → Option Value} {s : Shared} {news all : List (Addr × Obj)} {G : Value → List (Addr × Obj) → Prop} {y : Value} {h' : Heap} {tk : Nat} (add : List (Addr × Obj))
    (F : Fr h₀ L h' m) (N : News h₀ L h' all) (hs : ∀ p ∈ news ++ add, p ∈ all) (off : ∀ p ∈ add, ∀ q ∈ news, p.1 ≠ q.1) (hG : G y add) : Made h₀ L m s news G y { s with heap := h', toks := tk } :=
  ⟨h', tk, add, rfl, F, fun p hp => N p (hs p hp), off, hG⟩

section
variable {prog : Program} {w : World} {A : Around} {E : Value → Shared → Prop} {s : Shared} {h₀ : Heap} {L : Addr} {m : Str → Option Value} {env : Env} {news : List (Addr × Obj)}

def InvD (news tl : List (Addr × Obj)) (Pr : Nat → List Dat → Prop) (i : Nat) (ys : List Value) (nw : List (Addr × Obj)) : Prop :=
  ∃ add ds, nw = news ++ add ∧ (∀ p ∈ add, ∀ q ∈ news, p.1 ≠ q.1) ∧ ds.length = i ∧ Pr i ds ∧ DatAll (tl ++ add) ys ds

theorem InvD.snoc {tl : List (Addr × Obj)} {Pr : Nat → List Dat → Prop} {i : Nat} {ys : List Value} {ds : List Dat} {d : Dat} {y : Value} {add add2 : List (Addr × Obj)} (o1 : ∀ p ∈ add, ∀ q ∈ news, p.1 ≠ q.1) (o2 : ∀ p ∈ add2, ∀ q ∈ news, p.1 ≠ q.1) (hl : ds.length = i)
    (hD : DatAll (tl ++ add) ys ds) (hd : DatIn ((tl ++ add) ++ add2) y d) (hp : Pr (i + 1) (ds ++ [d])) : InvD news tl Pr (i + 1) (ys ++ [y]) (news ++ (add ++ add2)) := by
  refine ⟨add ++ add2, ds ++ [d], rfl, fun p hp q hq => ?_, by rw [List.length_append, List.length_singleton, hl], hp, ?_⟩
  · rcases List.mem_append.mp hp with hp | hp
    · exact o1 p hp q hq
    · exact o2 p hp q hq
  · rw [← List.append_assoc]
    exact (hD.mono fun p hp => List.mem_append_left _ hp).append (.one hd)

theorem src_range {elt : Expr} {x : Str} {scope : Scope} {cl : List (Str × Addr)} {Fin : Shared → List Value → List (Addr × Obj) → Prop} {r : Addr} {a b : Int} {t u v : Tok} {n : Nat} {s₁ : Shared}
    (Pr : Nat → List Dat → Prop) (tl : List (Addr × Obj)) (hh : A.handled = none) (F : Fr h₀ L s₁.heap m) (N : News h₀ L s₁.heap news) (hr : IsRange s₁.heap r a b 1 t u v) (hsm : Builtin.Range.small a b 1 = true) (hn : Builtin.Range.rangeSize a b 1 = ((n : Nat) : Int)) (hsz : n ≤ sizeLine) (h0 : Pr 0 [])
    (turn : ∀ i ys ds add t I oI C oC D m₂ h tk (E' : Value → Shared → Prop), i < n → ds.length = i → Pr i ds → DatAll (tl ++ add) ys ds → NsObj oC m₂ → m₂ x = some (.int (a + (i : Int)) t) → Fr h₀ L h m → News h₀ L h ((I, oI) :: (C, oC) :: (D, lst ys) :: (news ++ add)) →
      wpAny (model prog w) A (eval elt (compEnvC scope cl C env)) (Made h₀ L m { s₁ with heap := h, toks := tk } ((I, oI) :: (C, oC) :: (D, lst ys) :: (news ++ add)) (fun y add2 => ∃ d, DatIn ((tl ++ add) ++ add2) y d ∧ Pr (i + 1) (ds ++ [d]))) E' { s₁ with heap := h, toks := tk })
    (fin : ∀ g ys ds add, ds.length = n → Pr n ds → DatAll (tl ++ add) ys ds → (∀ p ∈ add, ∀ q ∈ news, p.1 ≠ q.1) → Fin { s₁ with heap := g } ys (news ++ add)) :
    CompSrc prog w A h₀ L m env elt x scope cl Fin (.ref r) s₁ := by
  refine CompSrc.range hh F N hr hsm hn hsz fun g => restInv (InvD news tl Pr) ?_ ?_ n 0 [] news rfl ⟨[], [], by simp, fun _ hp => (nomatch hp), rfl, h0, .nil⟩
  · rintro ys nw ⟨add, ds, rfl, o1, hl, hp, hD⟩
    exact fin g ys ds add hl hp hD o1
  · rintro i ys nw hi ⟨add, ds, rfl, o1, hl, hp, hD⟩ v I oI C oC D m₂ h tk E' ⟨t, rfl⟩ hC hx F' N' off' ne'
    refine wpAny_mono (turn i ys ds add t I oI C oC D m₂ h tk E' hi hl hp hD hC hx F' N') (fun y s₂ hy => ?_) fun _ _ e => e
    obtain ⟨h', tk', add2, rfl, F₂, N₂, o2, d, hd, hp'⟩ := hy
    have o2n : ∀ p ∈ add2, ∀ q ∈ news, p.1 ≠ q.1 := fun p hp q hq => o2 p hp q (List.mem_cons_of_mem _ (List.mem_cons_of_mem _ (List.mem_cons_of_mem _ (List.mem_append_left _ hq))))
    refine ⟨h', tk', news ++ (add ++ add2), rfl, F₂, ?_, ?_, trivial, InvD.snoc o1 o2n hl hD hd hp'⟩
    · rw [← List.append_assoc]; exact N₂
    · rw [← List.append_assoc]
      refine Off3.of fun p hp => ?_
      rcases List.mem_append.mp hp with hp | hp
      · exact off'.mem p hp
      · exact ⟨o2 p hp _ List.mem_cons_self, o2 p hp _ (List.mem_cons_of_mem _ List.mem_cons_self), o2 p hp _ (List.mem_cons_of_mem _ (List.mem_cons_of_mem _ List.mem_cons_self))⟩

theorem src_list {elt : Expr} {x : Str} {scope : Scope} {cl : List (Str × Addr)} {Fin : Shared → List Value → List (Addr × Obj) → Prop} {ax : Addr} {vs : List Value} {k : Nat} {es : List Dat} {s₁ : Shared}
    (Pr : Nat → List Dat → Prop) (tl : List (Addr × Obj)) (hh : A.handled = none) (F : Fr h₀ L s₁.heap m) (N : News h₀ L s₁.heap news) (hm : (ax, ({ cls := .type "list", data := .seq vs.toArray k } : Obj)) ∈ news) (hvs : DatAll tl vs es) (hsz : vs.length ≤ sizeLine) (h0 : Pr 0 [])
    (turn : ∀ i v e ys ds add I oI C oC D m₂ h tk (E' : Value → Shared → Prop), es[i]? = some e → DatIn tl v e → ds.length = i → Pr i ds → DatAll (tl ++ add) ys ds → NsObj oC m₂ → m₂ x = some v → Fr h₀ L h m → News h₀ L h ((I, oI) :: (C, oC) :: (D, lst ys) :: (news ++ add)) →
      wpAny (model prog w) A (eval elt (compEnvC scope cl C env)) (Made h₀ L m { s₁ with heap := h, toks := tk } ((I, oI) :: (C, oC) :: (D, lst ys) :: (news ++ add)) (fun y add2 => ∃ d, DatIn ((tl ++ add) ++ add2) y d ∧ Pr (i + 1) (ds ++ [d]))) E' { s₁ with heap := h, toks := tk })
    (fin : ∀ g ys ds add, ds.length = es.length → Pr es.length ds → DatAll (tl ++ add) ys ds → (∀ p ∈ add, ∀ q ∈ news, p.1 ≠ q.1) → Fin { s₁ with heap := g } ys (news ++ add)) :
    CompSrc prog w A h₀ L m env elt x scope cl Fin (.ref ax) s₁ := by
  have hlen : vs.toArray.size = es.length := by rw [List.size_toArray, hvs.length]
  refine CompSrc.ledger hh F N hm (by rw [List.size_toArray]; exact hsz) fun g => ?_
  rw [hlen]
  refine restInv (InvD news tl Pr) ?_ ?_ es.length 0 [] news rfl ⟨[], [], by simp, fun _ hp => (nomatch hp), rfl, h0, .nil⟩
  · rintro ys nw ⟨add, ds, rfl, o1, hl, hp, hD⟩
    exact fin g ys ds add hl hp hD o1
  · rintro i ys nw hi ⟨add, ds, rfl, o1, hl, hp, hD⟩ v I oI C oC D m₂ h tk E' hv hC hx F' N' off' ne'
    have hv' : vs[i]? = some v := by simpa using hv
    rcases datAll_get? hvs i with ⟨v', e, h1, h2, h3⟩ | ⟨h1, _⟩
    · rw [hv'] at h1
      cases h1
      refine wpAny_mono (turn i v e ys ds add I oI C oC D m₂ h tk E' h2 h3 hl hp hD hC hx F' N') (fun y s₂ hy => ?_) fun _ _ e => e
      obtain ⟨h', tk', add2, rfl, F₂, N₂, o2, d, hd, hp'⟩ := hy
      have o2n : ∀ p ∈ add2, ∀ q ∈ news, p.1 ≠ q.1 := fun p hp q hq => o2 p hp q (List.mem_cons_of_mem _ (List.mem_cons_of_mem _ (List.mem_cons_of_mem _ (List.mem_append_left _ hq))))
      refine ⟨h', tk', news ++ (add ++ add2), rfl, F₂, ?_, ?_, .inr ⟨_, List.mem_append_left _ hm, rfl, _, rfl⟩, InvD.snoc o1 o2n hl hD hd hp'⟩
      · rw [← List.append_assoc]; exact N₂
      · rw [← List.append_assoc]
        refine Off3.of fun p hp => ?_
        rcases List.mem_append.mp hp with hp | hp
        · exact off'.mem p hp
        · exact ⟨o2 p hp _ List.mem_cons_self, o2 p hp _ (List.mem_cons_of_mem _ List.mem_cons_self), o2 p hp _ (List.mem_cons_of_mem _ (List.mem_cons_of_mem _ List.mem_cons_self))⟩
    · rw [hv'] at h1; cases h1

theorem src_cell {elt : Expr} {x : Str} {scope : Scope} {cl : List (Str × Addr)} {Q : Value → Shared → Prop} {r : Addr} {a b : Int} {t u v : Tok} {n : Nat} {s₁ : Shared}
    (Pr : Nat → List Dat → Prop) (tl : List (Addr × Obj)) (hh : A.handled = none) (F : Fr h₀ L s₁.heap m) (N : News h₀ L s₁.heap news) (hr : IsRange s₁.heap r a b 1 t u v) (hsm : Builtin.Range.small a b 1 = true) (hn : Builtin.Range.rangeSize a b 1 = ((n : Nat) : Int)) (hsz : n ≤ sizeLine) (h0 : Pr 0 [])
    (turn : ∀ i ys ds add t I oI C oC c oc D h tk (E' : Value → Shared → Prop), i < n → ds.length = i → Pr i ds → DatAll (tl ++ add) ys ds → oc.data = .cell (some (.int (a + (i : Int)) t)) → Fr h₀ L h m → News h₀ L h ((I, oI) :: (C, oC) :: (c, oc) :: (D, lst ys) :: (news ++ add)) →
      wpAny (model prog w) A (eval elt (compEnvC scope ((x, c) :: cl) C env)) (Made h₀ L m { s₁ with heap := h, toks := tk } ((I, oI) :: (C, oC) :: (c, oc) :: (D, lst ys) :: (news ++ add)) (fun y add2 => ∃ d, DatIn ((tl ++ add) ++ add2) y d ∧ Pr (i + 1) (ds ++ [d]))) E' { s₁ with heap := h, toks := tk })
    (fin : ∀ D ys ds add h tk, ds.length = n → Pr n ds → DatAll (tl ++ add) ys ds → (∀ p ∈ add, ∀ q ∈ news, p.1 ≠ q.1) → Fr h₀ L h m → News h₀ L h ((D, lst ys) :: (news ++ add)) → Off1 D (news ++ add) → Q (.ref D) { s₁ with heap := h, toks := tk }) :
    CellSrc prog w A h₀ L m env elt x scope cl Q (.ref r) s₁ := by
  refine ⟨r, a, b, t, u, v, n, news, InvD news tl Pr, rfl, hh, F, N, hr, hsm, hn, hsz, ⟨[], [], by simp, fun _ hp => (nomatch hp), rfl, h0, .nil⟩, ?_, ?_⟩
  · rintro i ys nw t I oI C oC c oc D h tk E' hi ⟨add, ds, rfl, o1, hl, hp, hD⟩ hc F' N' off' ne'
    refine wpAny_mono (turn i ys ds add t I oI C oC c oc D h tk E' hi hl hp hD hc F' N') (fun y s₂ hy => ?_) fun _ _ e => e
    obtain ⟨h', tk', add2, rfl, F₂, N₂, o2, d, hd, hp'⟩ := hy
    have o2n : ∀ p ∈ add2, ∀ q ∈ news, p.1 ≠ q.1 := fun p hp q hq => o2 p hp q (List.mem_cons_of_mem _ (List.mem_cons_of_mem _ (List.mem_cons_of_mem _ (List.mem_cons_of_mem _ (List.mem_append_left _ hq)))))
    refine ⟨h', tk', news ++ (add ++ add2), rfl, F₂, ?_, ?_, InvD.snoc o1 o2n hl hD hd hp'⟩
    · rw [← List.append_assoc]; exact N₂
    · rw [← List.append_assoc]
      intro p hp
      rcases List.mem_append.mp hp with hp | hp
      · exact off' p hp
      · exact ⟨o2 p hp _ List.mem_cons_self, o2 p hp _ (List.mem_cons_of_mem _ List.mem_cons_self), o2 p hp _ (List.mem_cons_of_mem _ (List.mem_cons_of_mem _ List.mem_cons_self)), o2 p hp _ (List.mem_cons_of_mem _ (List.mem_cons_of_mem _ (List.mem_cons_of_mem _ List.mem_cons_self)))⟩
  · rintro ys nw D h tk ⟨add, ds, rfl, o1, hl, hp, hD⟩ F' N' o'
    exact fin D ys ds add h tk hl hp hD o1 F' N' o'
end
end Mine
namespace Mine
open PySem PySem.W PySem.Spec PySem.Calls PyProof.Rows PyProof.Rows.LCg
theorem allLt_mem {D : Addr} : ∀ {l : List (Addr × Obj)}, AllLt D l → ∀ p ∈ l, p.1 < D
  | [], _, _, h => nomatch h
  | _ :: _, ⟨h, r⟩, p, hp => by
    rcases List.mem_cons.mp hp with rfl | hp
    · exact h
    · exact allLt_mem r p hp
theorem allLt_ne {D : Addr} {l base : List (Addr × Obj)} (h : AllLt D l) (hs : ∀ p ∈ base, p ∈ l) : ∀ q ∈ base, D ≠ q.1 := fun q hq => Ne.symm (Nat.ne_of_lt (allLt_mem h q (hs q hq)))
theorem made_pair {h₀ : Heap} {L D : Addr} {m : Str → Option Value} {s : Shared} {base l tl add : List (Addr × Obj)} {Pr : Nat → List Dat → Prop} {i : Nat} {ds : List Dat} {h' : Heap} {tk n : Nat} {a b : Int} {ta tb : Tok}
    (F : Fr h₀ L h' m) (N : News h₀ L h' ((D, ({ cls := .type "tuple", data := .seq #[.int a ta, .int b tb] n } : Obj)) :: l)) (hl : AllLt D l) (hs : ∀ p ∈ base, p ∈ l) (hp : Pr (i + 1) (ds ++ [Dat.tuple [.int a, .int b]])) :
    Made h₀ L m s base (fun y add2 => ∃ d, DatIn ((tl ++ add) ++ add2) y d ∧ Pr (i + 1) (ds ++ [d])) (.ref D) { s with heap := h', toks := tk } := by
  refine Made.intro [(D, { cls := .type "tuple", data := .seq #[.int a ta, .int b tb] n })] F N ?_ ?_ ⟨_, ?_, hp⟩
  · intro p hp
    rcases List.mem_append.mp hp with hp | hp
    · exact List.mem_cons_of_mem _ (hs p hp)
    · rw [List.mem_singleton.mp hp]; exact List.mem_cons_self
  · intro p hp q hq
    rw [List.mem_singleton.mp hp]
    exact allLt_ne hl hs q hq
  · exact DatIn.tuple (vs := [.int a ta, .int b tb]) (List.mem_append_right _ (List.mem_singleton.mpr rfl)) (.cons (.int _ _) (.cons (.int _ _) .nil))
end Mine

set_option maxRecDepth 100000
namespace Mine
open PySem PySem.W PySem.Spec PySem.Calls PyProof.Rows PyProof.Rows.LCg
def cell3 (ns : List Int) (i o : Int) : Int := ns.getD i.toNat o
theorem rk_bnd (x y : Int) : 0 ≤ (x.fmod 4 + 1) * y.fmod 6 ∧ (x.fmod 4 + 1) * y.fmod 6 ≤ 20 := by
  have h1 := fmod_lo x (n := 4) (by decide)
  have h2 := fmod_hi x (n := 4) (by decide)
  have h3 := fmod_lo y (n := 6) (by decide)
  have h4 := fmod_hi y (n := 6) (by decide)
  refine ⟨Int.mul_nonneg (by omega) h3, ?_⟩
  exact Int.le_trans (Int.mul_le_mul_of_nonneg_right (b := 4) (by omega) h3) (by omega)
theorem rk_small (x y : Int) : Builtin.Range.small 0 ((x.fmod 4 + 1) * y.fmod 6) 1 = true := by
  have := rk_bnd x y
  exact small_one (by omega) (by omega) (by omega) (by omega)
theorem rk_size (x y : Int) : (((x.fmod 4 + 1) * y.fmod 6) - 0).toNat ≤ sizeLine := by
  have := rk_bnd x y
  rw [sizeLine_eq]
  omega
def PrPair (_ : Nat) (ds : List Dat) : Prop := ∀ d ∈ ds, ∃ a b, d = Dat.tuple [.int a, .int b]
theorem pair_snoc {i j : Nat} {ds : List Dat} {a b : Int} (h : PrPair i ds) : PrPair j (ds ++ [Dat.tuple [.int a, .int b]]) := fun d hd => by
  rcases List.mem_append.mp hd with hd | hd
  · exact h d hd
  · exact ⟨a, b, List.mem_singleton.mp hd⟩
theorem own_of {add news : List (Addr × Obj)} (h : ∀ p ∈ add, ∀ q ∈ news, p.1 ≠ q.1) : OwnOff add (news.map (·.1)) := fun p hp b hb => by
  obtain ⟨q, hq, rfl⟩ := List.mem_map.mp hb
  exact h p hp q hq
/-- a datum that is a pair of ints -/
def IsPair (d : Dat) : Prop := ∃ a b, d = Dat.tuple [.int a, .int b]
theorem pairs_fun {n : Nat} {ds : List Dat} (hl : ds.length = n) (hp : PrPair n ds) : ∃ g : Nat → Dat, ds = (List.range n).map g ∧ ∀ k, IsPair (g k) := by
  refine ⟨fun k => ds.getD k (Dat.tuple [.int 0, .int 0]), ?_, fun k => ?_⟩
  · apply List.ext_getElem?
    intro k
    by_cases hk : k < n
    · simp [hl, hk]
    · rw [List.getElem?_eq_none (by omega), List.getElem?_eq_none (by simp; omega)]
  · by_cases hk : k < ds.length
    · have e : ds.getD k (Dat.tuple [.int 0, .int 0]) = ds[k] := by simp [hk]
      show IsPair (ds.getD k _)
      rw [e]
      exact hp _ (List.getElem_mem hk)
    · exact ⟨0, 0, by simp [Nat.not_lt.mp hk]⟩

/-- the table's data -/
def tabD (f : Nat → Nat → Dat) (r k : Nat) : List Dat := (List.range r).map fun i => Dat.list ((List.range k).map (f i))
def rowsG (g : Nat → Dat) (k i j : Nat) : Dat := g (i * k + j)
theorem rk_nat (x y : Int) : (((x.fmod 4 + 1) * y.fmod 6) - 0).toNat = ((x.fmod 4).toNat + 1) * (y.fmod 6).toNat := by
  have h1 := fmod_lo x (n := 4) (by decide)
  have h3 := fmod_lo y (n := 6) (by decide)
  obtain ⟨a, ha⟩ := Int.eq_ofNat_of_zero_le h1
  obtain ⟨b, hb⟩ := Int.eq_ofNat_of_zero_le h3
  rw [ha, hb, Int.sub_zero]
  have : ((a : Int) + 1) * (b : Int) = (((a + 1) * b : Nat) : Int) := by push_cast; rfl
  rw [this, Int.toNat_natCast, Int.toNat_natCast, Int.toNat_natCast]
theorem f4 (x : Int) : (((x.fmod 4).toNat : Nat) : Int) = x.fmod 4 := Int.toNat_of_nonneg (fmod_lo x (by decide))
theorem f6 (y : Int) : (((y.fmod 6).toNat : Nat) : Int) = y.fmod 6 := Int.toNat_of_nonneg (fmod_lo y (by decide))

theorem pick_row (x y : Int) (g : Nat → Dat) (i : Nat) (hi : i < (x.fmod 4 - 0).toNat) :
    pickD ((List.range (((x.fmod 4 + 1) * y.fmod 6) - 0).toNat).map g) (some ((0 + (i : Int)) * y.fmod 6)) (some ((0 + (i : Int)) * y.fmod 6 + y.fmod 6)) none = (List.range (y.fmod 6).toNat).map (rowsG g (y.fmod 6).toNat i) := by
  rw [rk_nat, ← f6 y]
  rw [Int.sub_zero] at hi
  generalize (x.fmod 4).toNat = r at hi
  generalize (y.fmod 6).toNat = k
  simp only [Int.toNat_natCast]
  have e1 : (0 + (i : Int)) * (k : Int) = ((i * k : Nat) : Int) := by push_cast; rw [Int.zero_add]
  have hle : (i + 1) * k ≤ (r + 1) * k := Nat.mul_le_mul_right k (by omega)
  rw [Nat.add_mul, Nat.one_mul] at hle
  have e2 : ((i * k : Nat) : Int) + (k : Int) = ((i * k + k : Nat) : Int) := by push_cast; rfl
  rw [e1, e2]
  exact pick_run' g ((r + 1) * k) (i * k) (i * k + k) k rfl hle _ _ (clipD_nat _ _ (by omega)) (clipD_nat _ _ hle)
theorem pick_want (x y : Int) (g : Nat → Dat) (j : Nat) (hj : j < (y.fmod 6 - 0).toNat) :
    pickD ((List.range (((x.fmod 4 + 1) * y.fmod 6) - 0).toNat).map g) (some (0 + (j : Int))) (some (x.fmod 4 * y.fmod 6)) (some (y.fmod 6)) = (List.range (x.fmod 4).toNat).map fun i => rowsG g (y.fmod 6).toNat i j := by
  rw [rk_nat, ← f6 y, ← f4 x]
  rw [Int.sub_zero] at hj
  generalize (x.fmod 4).toNat = r
  generalize (y.fmod 6).toNat = k at hj
  simp only [Int.toNat_natCast, Int.zero_add]
  have hle : r * k ≤ (r + 1) * k := Nat.mul_le_mul_right k (by omega)
  have e1 : (r : Int) * (k : Int) = ((r * k : Nat) : Int) := by push_cast; rfl
  rw [e1]
  exact pick_step g r k ((r + 1) * k) j hj hle _ (clipD_nat _ _ hle)
theorem pick_last (x y : Int) (g : Nat → Dat) :
    pickD ((List.range (((x.fmod 4 + 1) * y.fmod 6) - 0).toNat).map g) (some (x.fmod 4 * y.fmod 6)) none none = (List.range (y.fmod 6).toNat).map (rowsG g (y.fmod 6).toNat (x.fmod 4).toNat) := by
  rw [rk_nat, ← f6 y, ← f4 x]
  generalize (x.fmod 4).toNat = r
  generalize (y.fmod 6).toNat = k
  simp only [Int.toNat_natCast]
  have e1 : (r : Int) * (k : Int) = ((r * k : Nat) : Int) := by push_cast; rfl
  have e2 : r * k + k = (r + 1) * k := by rw [Nat.add_mul, Nat.one_mul]
  rw [e1]
  exact pick_run' g ((r + 1) * k) (r * k) ((r + 1) * k) k e2 (Nat.le_refl _) _ _ (clipD_nat _ _ (by omega)) rfl
theorem pick_longer (x y : Int) (g : Nat → Dat) (j : Nat) (hj : j < (y.fmod 6 - 0).toNat) :
    pickD ((List.range (((x.fmod 4 + 1) * y.fmod 6) - 0).toNat).map g) (some (0 + (j : Int))) none (some (y.fmod 6)) = (List.range ((x.fmod 4).toNat + 1)).map fun i => rowsG g (y.fmod 6).toNat i j := by
  rw [rk_nat, ← f6 y, ← f4 x]
  rw [Int.sub_zero] at hj
  generalize (x.fmod 4).toNat = r
  generalize (y.fmod 6).toNat = k at hj
  simp only [Int.toNat_natCast, Int.zero_add]
  exact pick_step g (r + 1) k ((r + 1) * k) j hj (Nat.le_refl _) _ rfl

/-- the rows so far -/
def PrTab (f : Nat → Nat → Dat) (k i : Nat) (ds : List Dat) : Prop := ds = tabD f i k
theorem tab_snoc {f : Nat → Nat → Dat} {k i : Nat} {ds es : List Dat} (h : PrTab f k i ds) (he : es = (List.range k).map (f i)) : PrTab f k (i + 1) (ds ++ [Dat.list es]) := by
  unfold PrTab tabD at *
  rw [h, he, List.range_succ, List.map_append]
  rfl
theorem tab_nil (f : Nat → Nat → Dat) (k : Nat) : PrTab f k 0 [] := rfl
theorem range_small {b : Int} (h0 : 0 ≤ b) (h1 : b < 2 ^ 62) : Builtin.Range.small 0 b 1 = true := small_one (by omega) (by omega) (by omega) h1
theorem range_size {b : Int} (h1 : b < 2 ^ 20) : (b - 0).toNat ≤ sizeLine := by rw [sizeLine_eq]; omega

theorem made_list {h₀ : Heap} {L D : Addr} {m : Str → Option Value} {s : Shared} {base l tl add : List (Addr × Obj)} {Pr : Nat → List Dat → Prop} {i : Nat} {ds es : List Dat} {zs : List Value} {h' : Heap} {tk n : Nat}
    (F : Fr h₀ L h' m) (N : News h₀ L h' ((D, listOf zs.toArray n) :: l)) (hl : ∀ p ∈ l, p.1 < D) (hs : ∀ p ∈ base, p ∈ l) (hz : DatAll tl zs es) (hp : Pr (i + 1) (ds ++ [Dat.list es])) :
    Made h₀ L m s base (fun y add2 => ∃ d, DatIn ((tl ++ add) ++ add2) y d ∧ Pr (i + 1) (ds ++ [d])) (.ref D) { s with heap := h', toks := tk } := by
  refine Made.intro [(D, listOf zs.toArray n)] F N ?_ ?_ ⟨_, ?_, hp⟩
  · intro p hp
    rcases List.mem_append.mp hp with hp | hp
    · exact List.mem_cons_of_mem _ (hs p hp)
    · rw [List.mem_singleton.mp hp]; exact List.mem_cons_self
  · intro p hp q hq
    rw [List.mem_singleton.mp hp]
    exact Ne.symm (Nat.ne_of_lt (hl q (hs q hq)))
  · exact DatIn.list (List.mem_append_right _ (List.mem_singleton.mpr rfl)) (hz.mono fun p hp => List.mem_append_left _ (List.mem_append_left _ hp))
theorem datIn_list {news : List (Addr × Obj)} {v : Value} {es : List Dat} (h : DatIn news v (Dat.list es)) : ∃ a vs n, v = .ref a ∧ (a, listOf vs.toArray n) ∈ news ∧ DatAll news vs es := by
  cases h with
  | list hm hd => exact ⟨_, _, _, rfl, hm, hd⟩
theorem tab_get {f : Nat → Nat → Dat} {r k i : Nat} {e : Dat} (h : (tabD f r k)[i]? = some e) : i < r ∧ e = Dat.list ((List.range k).map (f i)) := by
  unfold tabD at h
  by_cases hi : i < r
  · rw [List.getElem?_map, List.getElem?_range hi] at h
    exact ⟨hi, (Option.some.inj h).symm⟩
  · rw [List.getElem?_eq_none (by simpa using hi)] at h; cases h
theorem tab_length (f : Nat → Nat → Dat) (r k : Nat) : (tabD f r k).length = r := by simp [tabD]

section
variable {prog : Program} {w : World} {A : Around} {E : Value → Shared → Prop} {s : Shared} {h₀ : Heap} {L : Addr} {m : Str → Option Value} {env : Env} {news : List (Addr × Obj)}
theorem ListComp_cell' {elt iter : Expr} {x : Str} {px : Pos} {scope : Scope} {cl : List (Str × Addr)} {pos : Pos} {Q : Value → Shared → Prop} (_F₀ : Fr h₀ L s.heap m)
    (hclos : closureFor scope env = pure cl) (hkind : scope.kind = .function)
    (hnames : ∀ y ∈ scope.names, y.2 = .local → scope.names.lookup y.1 = some .local) (hx : scope.names.lookup x = some .cell)
    (hcells : ∀ k, cellsFrom k scope.names cl = (x, k) :: cl) (hpush : ∀ h, pushCells h scope.names = h.push { cls := .type "cell", data := .cell none })
    (h : wpAny (model prog w) A (eval iter env) (CellSrc prog w A h₀ L m env elt x scope cl Q) E s)
    (hs : ∀ x, foldedSetIterable iter env x = pure x := by intro _; rfl) :
    wpAny (model prog w) A (eval (.ListComp elt [⟨.Name x px, iter, [], 0⟩] scope pos) env) Q E s := ListComp_cell hclos hkind hnames hx hcells hpush h hs
theorem len_of {tl : List (Addr × Obj)} {vs : List Value} {ds : List Dat} {n : Nat} (h : DatAll tl vs ds) (hn : ds.length = n) (hs : n ≤ sizeLine) : vs.length ≤ sizeLine := by rw [h.length, hn]; exact hs
theorem len_flat {tl : List (Addr × Obj)} {vs : List Value} {g : Nat → Dat} {x y : Int} (h : DatAll tl vs ((List.range (((x.fmod 4 + 1) * y.fmod 6) - 0).toNat).map g)) : vs.length ≤ sizeLine := len_of h (by simp) (rk_size x y)
/-- what the table of `flat` is said to hold -/
abbrev FlatIs (tl : List (Addr × Obj)) (vs : List Value) (x y : Int) (g : Nat → Dat) : Prop := DatAll tl vs ((List.range (((x.fmod 4 + 1) * y.fmod 6) - 0).toNat).map g)
theorem fs4 (x : Int) : Builtin.Range.small 0 (x.fmod 4) 1 = true := by
  have h1 := fmod_lo x (n := 4) (by decide)
  have h2 := fmod_hi x (n := 4) (by decide)
  exact range_small h1 (by omega)
theorem fs6 (x : Int) : Builtin.Range.small 0 (x.fmod 6) 1 = true := by
  have h1 := fmod_lo x (n := 6) (by decide)
  have h2 := fmod_hi x (n := 6) (by decide)
  exact range_small h1 (by omega)
theorem fz4 (x : Int) : (x.fmod 4 - 0).toNat ≤ sizeLine := by
  have h2 := fmod_hi x (n := 4) (by decide)
  exact range_size (by omega)
theorem fz6 (x : Int) : (x.fmod 6 - 0).toNat ≤ sizeLine := by
  have h2 := fmod_hi x (n := 6) (by decide)
  exact range_size (by omega)

theorem src_m {elt : Expr} {xn : Str} {scope : Scope} {cl : List (Str × Addr)} {Fin : Shared → List Value → List (Addr × Obj) → Prop} {r : Addr} {t u v : Tok} {s₁ : Shared} {tl : List (Addr × Obj)} {vs : List Value} {x y : Int} {g : Nat → Dat}
    (_hF : FlatIs tl vs x y g) (hh : A.handled = none) (F : Fr h₀ L s₁.heap m) (N : News h₀ L s₁.heap news) (hr : IsRange s₁.heap r 0 (x.fmod 4) 1 t u v)
    (turn : ∀ i ys ds add t I oI C oC D m₂ h tk (E' : Value → Shared → Prop), i < (x.fmod 4 - 0).toNat → ds.length = i → PrTab (rowsG g (y.fmod 6).toNat) (y.fmod 6).toNat i ds → DatAll (tl ++ add) ys ds → NsObj oC m₂ → m₂ xn = some (.int (0 + (i : Int)) t) → Fr h₀ L h m → News h₀ L h ((I, oI) :: (C, oC) :: (D, lst ys) :: (news ++ add)) →
      wpAny (model prog w) A (eval elt (compEnvC scope cl C env)) (Made h₀ L m { s₁ with heap := h, toks := tk } ((I, oI) :: (C, oC) :: (D, lst ys) :: (news ++ add)) (fun y' add2 => ∃ d, DatIn ((tl ++ add) ++ add2) y' d ∧ PrTab (rowsG g (y.fmod 6).toNat) (y.fmod 6).toNat (i + 1) (ds ++ [d]))) E' { s₁ with heap := h, toks := tk })
    (fin : ∀ g' ys add, DatAll (tl ++ add) ys (tabD (rowsG g (y.fmod 6).toNat) (x.fmod 4).toNat (y.fmod 6).toNat) → (∀ p ∈ add, ∀ q ∈ news, p.1 ≠ q.1) → Fin { s₁ with heap := g' } ys (news ++ add)) :
    CompSrc prog w A h₀ L m env elt xn scope cl Fin (.ref r) s₁ :=
  src_range (PrTab (rowsG g (y.fmod 6).toNat) (y.fmod 6).toNat) tl hh F N hr (fs4 x) (rangeSize_nat _ _) (fz4 x) (tab_nil _ _) turn
    fun g' ys ds add _ hp hD hO => fin g' ys add (by rw [PrTab] at hp; rw [hp, Int.sub_zero] at hD; exact hD) hO
theorem src_want {elt : Expr} {xn : Str} {scope : Scope} {cl : List (Str × Addr)} {Fin : Shared → List Value → List (Addr × Obj) → Prop} {r : Addr} {t u v : Tok} {s₁ : Shared} {tl : List (Addr × Obj)} {vs : List Value} {x y : Int} {g : Nat → Dat} (ρ : Nat)
    (_hF : FlatIs tl vs x y g) (hh : A.handled = none) (F : Fr h₀ L s₁.heap m) (N : News h₀ L s₁.heap news) (hr : IsRange s₁.heap r 0 (y.fmod 6) 1 t u v)
    (turn : ∀ i ys ds add t I oI C oC D m₂ h tk (E' : Value → Shared → Prop), i < (y.fmod 6 - 0).toNat → ds.length = i → PrTab (fun j i => rowsG g (y.fmod 6).toNat i j) ρ i ds → DatAll (tl ++ add) ys ds → NsObj oC m₂ → m₂ xn = some (.int (0 + (i : Int)) t) → Fr h₀ L h m → News h₀ L h ((I, oI) :: (C, oC) :: (D, lst ys) :: (news ++ add)) →
      wpAny (model prog w) A (eval elt (compEnvC scope cl C env)) (Made h₀ L m { s₁ with heap := h, toks := tk } ((I, oI) :: (C, oC) :: (D, lst ys) :: (news ++ add)) (fun y' add2 => ∃ d, DatIn ((tl ++ add) ++ add2) y' d ∧ PrTab (fun j i => rowsG g (y.fmod 6).toNat i j) ρ (i + 1) (ds ++ [d]))) E' { s₁ with heap := h, toks := tk })
    (fin : ∀ g' ys add, DatAll (tl ++ add) ys (tabD (fun j i => rowsG g (y.fmod 6).toNat i j) (y.fmod 6).toNat ρ) → (∀ p ∈ add, ∀ q ∈ news, p.1 ≠ q.1) → Fin { s₁ with heap := g' } ys (news ++ add)) :
    CompSrc prog w A h₀ L m env elt xn scope cl Fin (.ref r) s₁ :=
  src_range (PrTab (fun j i => rowsG g (y.fmod 6).toNat i j) ρ) tl hh F N hr (fs6 y) (rangeSize_nat _ _) (fz6 y) (tab_nil _ _) turn
    fun g' ys ds add _ hp hD hO => fin g' ys add (by rw [PrTab] at hp; rw [hp, Int.sub_zero] at hD; exact hD) hO
theorem src_kept {elt : Expr} {xn : Str} {scope : Scope} {cl : List (Str × Addr)} {Fin : Shared → List Value → List (Addr × Obj) → Prop} {ax : Addr} {vs : List Value} {k : Nat} {s₁ : Shared} {tl : List (Addr × Obj)} {f : Nat → Nat → Dat} {ρ κ : Nat}
    (hh : A.handled = none) (F : Fr h₀ L s₁.heap m) (N : News h₀ L s₁.heap news) (hm : (ax, ({ cls := .type "list", data := .seq vs.toArray k } : Obj)) ∈ news) (hvs : DatAll tl vs (tabD f ρ κ)) (hsz : ρ ≤ sizeLine)
    (turn : ∀ i a es k' ys ds add I oI C oC D m₂ h tk (E' : Value → Shared → Prop), (a, listOf (List.toArray es) k') ∈ tl → DatAll tl es ((List.range κ).map (f i)) → ds.length = i → PrTab f κ i ds → DatAll (tl ++ add) ys ds → NsObj oC m₂ → m₂ xn = some (.ref a) → Fr h₀ L h m → News h₀ L h ((I, oI) :: (C, oC) :: (D, lst ys) :: (news ++ add)) →
      wpAny (model prog w) A (eval elt (compEnvC scope cl C env)) (Made h₀ L m { s₁ with heap := h, toks := tk } ((I, oI) :: (C, oC) :: (D, lst ys) :: (news ++ add)) (fun y add2 => ∃ d, DatIn ((tl ++ add) ++ add2) y d ∧ PrTab f κ (i + 1) (ds ++ [d]))) E' { s₁ with heap := h, toks := tk })
    (fin : ∀ g' ys add, DatAll (tl ++ add) ys (tabD f ρ κ) → (∀ p ∈ add, ∀ q ∈ news, p.1 ≠ q.1) → Fin { s₁ with heap := g' } ys (news ++ add)) :
    CompSrc prog w A h₀ L m env elt xn scope cl Fin (.ref ax) s₁ :=
  src_list (PrTab f κ) tl hh F N hm hvs (len_of hvs (tab_length _ _ _) hsz) (tab_nil _ _)
    (fun i v e ys ds add I oI C oC D m₂ h tk E' he hv hl hp hD hC hx F' N' => by
      obtain ⟨_, rfl⟩ := tab_get he
      obtain ⟨a, es, n, rfl, hmem, hes⟩ := datIn_list hv
      exact turn i a es n ys ds add I oI C oC D m₂ h tk E' hmem hes hl hp hD hC hx F' N')
    fun g' ys ds add _ hp hD hO => fin g' ys add (by rw [PrTab, tab_length] at hp; rw [hp] at hD; exact hD) hO

/-- the items of one row so far -/
def PrRow (f : Nat → Dat) (i : Nat) (ds : List Dat) : Prop := ds = (List.range i).map f
theorem row_snoc {f : Nat → Dat} {i : Nat} {ds : List Dat} {d : Dat} (h : PrRow f i ds) (hd : d = f i) : PrRow f (i + 1) (ds ++ [d]) := by
  unfold PrRow at *
  rw [h, hd, List.range_succ, List.map_append]
  rfl
theorem src_trO {elt : Expr} {xn : Str} {scope : Scope} {cl : List (Str × Addr)} {Q : Value → Shared → Prop} {r : Addr} {b : Int} {t u v : Tok} {s₁ : Shared} {tl : List (Addr × Obj)} {vs : List Value} {f : Nat → Nat → Dat} {ρ κ : Nat}
    (_hM : DatAll tl vs (tabD f ρ κ)) (hh : A.handled = none) (F : Fr h₀ L s₁.heap m) (N : News h₀ L s₁.heap news) (hr : IsRange s₁.heap r 0 b 1 t u v) (hb : b = (κ : Int)) (hκ : κ < 8)
    (turn : ∀ i ys ds add t I oI C oC c oc D h tk (E' : Value → Shared → Prop), i < κ → ds.length = i → PrTab (fun j i => f i j) ρ i ds → DatAll (tl ++ add) ys ds → oc.data = .cell (some (.int (0 + (i : Int)) t)) → Fr h₀ L h m → News h₀ L h ((I, oI) :: (C, oC) :: (c, oc) :: (D, lst ys) :: (news ++ add)) →
      wpAny (model prog w) A (eval elt (compEnvC scope ((xn, c) :: cl) C env)) (Made h₀ L m { s₁ with heap := h, toks := tk } ((I, oI) :: (C, oC) :: (c, oc) :: (D, lst ys) :: (news ++ add)) (fun y add2 => ∃ d, DatIn ((tl ++ add) ++ add2) y d ∧ PrTab (fun j i => f i j) ρ (i + 1) (ds ++ [d]))) E' { s₁ with heap := h, toks := tk })
    (fin : ∀ D ys add h tk, DatAll (tl ++ add) ys (tabD (fun j i => f i j) κ ρ) → (∀ p ∈ add, ∀ q ∈ news, p.1 ≠ q.1) → Fr h₀ L h m → News h₀ L h ((D, lst ys) :: (news ++ add)) → Off1 D (news ++ add) → Q (.ref D) { s₁ with heap := h, toks := tk }) :
    CellSrc prog w A h₀ L m env elt xn scope cl Q (.ref r) s₁ := by
  subst hb
  have e : ((κ : Int) - 0).toNat = κ := by omega
  exact src_cell (n := κ) (PrTab (fun j i => f i j) ρ) tl hh F N hr (range_small (by omega) (by omega)) (by rw [rangeSize_nat, e]) (by rw [sizeLine_eq]; omega) (tab_nil _ _) turn
    fun D ys ds add h tk _ hp hD hO F' N' o' => fin D ys add h tk (by rw [PrTab] at hp; rw [hp] at hD; exact hD) hO F' N' o'
theorem src_trI {elt : Expr} {xn : Str} {scope : Scope} {cl : List (Str × Addr)} {Fin : Shared → List Value → List (Addr × Obj) → Prop} {r : Addr} {b : Int} {t u v : Tok} {s₁ : Shared} {tl : List (Addr × Obj)} {vs : List Value} {f : Nat → Nat → Dat} {ρ κ : Nat} (j : Nat)
    (hM : DatAll tl vs (tabD f ρ κ)) (hh : A.handled = none) (F : Fr h₀ L s₁.heap m) (N : News h₀ L s₁.heap news) (hr : IsRange s₁.heap r 0 b 1 t u v) (hb : b = (vs.length : Int)) (hρ : ρ < 8)
    (turn : ∀ i ys ds add t I oI C oC D m₂ h tk (E' : Value → Shared → Prop), i < ρ → ds.length = i → PrRow (fun i => f i j) i ds → DatAll (tl ++ add) ys ds → NsObj oC m₂ → m₂ xn = some (.int (0 + (i : Int)) t) → Fr h₀ L h m → News h₀ L h ((I, oI) :: (C, oC) :: (D, lst ys) :: (news ++ add)) →
      wpAny (model prog w) A (eval elt (compEnvC scope cl C env)) (Made h₀ L m { s₁ with heap := h, toks := tk } ((I, oI) :: (C, oC) :: (D, lst ys) :: (news ++ add)) (fun y add2 => ∃ d, DatIn ((tl ++ add) ++ add2) y d ∧ PrRow (fun i => f i j) (i + 1) (ds ++ [d]))) E' { s₁ with heap := h, toks := tk })
    (fin : ∀ g' ys add, DatAll (tl ++ add) ys ((List.range ρ).map fun i => f i j) → (∀ p ∈ add, ∀ q ∈ news, p.1 ≠ q.1) → Fin { s₁ with heap := g' } ys (news ++ add)) :
    CompSrc prog w A h₀ L m env elt xn scope cl Fin (.ref r) s₁ := by
  rw [hM.length, tab_length] at hb
  subst hb
  have e : ((ρ : Int) - 0).toNat = ρ := by omega
  exact src_range (n := ρ) (PrRow fun i => f i j) tl hh F N hr (range_small (by omega) (by omega)) (by rw [rangeSize_nat, e]) (by rw [sizeLine_eq]; omega) rfl turn
    fun g' ys ds add _ hp hD hO => fin g' ys add (by rw [PrRow] at hp; rw [hp] at hD; exact hD) hO
/-- nothing is made: the item of a row -/
theorem made_item {h₀ : Heap} {L : Addr} {m : Str → Option Value} {s : Shared} {base all tl add : List (Addr × Obj)} {Pr : Nat → List Dat → Prop} {i : Nat} {ds : List Dat} {d : Dat} {y : Value} {h' : Heap} {tk : Nat}
    (F : Fr h₀ L h' m) (N : News h₀ L h' all) (hs : ∀ p ∈ base, p ∈ all) (hd : DatIn tl y d) (hp : Pr (i + 1) (ds ++ [d])) :
    Made h₀ L m s base (fun y add2 => ∃ d, DatIn ((tl ++ add) ++ add2) y d ∧ Pr (i + 1) (ds ++ [d])) y { s with heap := h', toks := tk } :=
  Made.intro [] F N (by rw [List.append_nil]; exact hs) (fun _ h => nomatch h) ⟨d, hd.mono fun p hp => List.mem_append_left _ (List.mem_append_left _ hp), hp⟩
/-- a row that an inner comprehension has made -/
theorem made_inner {h₀ : Heap} {L D : Addr} {m : Str → Option Value} {s : Shared} {base tl add add3 : List (Addr × Obj)} {Pr : Nat → List Dat → Prop} {i : Nat} {ds es : List Dat} {zs : List Value} {h' : Heap} {tk : Nat}
    (F : Fr h₀ L h' m) (N : News h₀ L h' ((D, lst zs) :: (base ++ add3))) (o1 : Off1 D (base ++ add3)) (o3 : ∀ p ∈ add3, ∀ q ∈ base, p.1 ≠ q.1) (hz : DatAll (tl ++ add3) zs es) (hp : Pr (i + 1) (ds ++ [Dat.list es])) :
    Made h₀ L m s base (fun y add2 => ∃ d, DatIn ((tl ++ add) ++ add2) y d ∧ Pr (i + 1) (ds ++ [d])) (.ref D) { s with heap := h', toks := tk } := by
  have off1 : ∀ {l : List (Addr × Obj)}, Off1 D l → ∀ p ∈ l, p.1 ≠ D := by
    intro l
    induction l with
    | nil => intro _ p hp; nomatch hp
    | cons a r ih =>
      intro h p hp
      rcases List.mem_cons.mp hp with rfl | hp
      · exact h.1
      · exact ih h.2 p hp
  refine Made.intro ((D, lst zs) :: add3) F N ?_ ?_ ⟨_, ?_, hp⟩
  · intro p hp
    rcases List.mem_append.mp hp with hp | hp
    · exact List.mem_cons_of_mem _ (List.mem_append_left _ hp)
    · rcases List.mem_cons.mp hp with rfl | hp
      · exact List.mem_cons_self
      · exact List.mem_cons_of_mem _ (List.mem_append_right _ hp)
  · intro p hp q hq
    rcases List.mem_cons.mp hp with rfl | hp
    · exact Ne.symm (off1 o1 q (List.mem_append_left _ hq))
    · exact o3 p hp q hq
  · refine DatIn.list (vs := zs) (n := zs.length) (List.mem_append_right _ List.mem_cons_self) (hz.mono fun p hp => ?_)
    rcases List.mem_append.mp hp with hp | hp
    · exact List.mem_append_left _ (List.mem_append_left _ hp)
    · exact List.mem_append_right _ (List.mem_cons_of_mem _ hp)
end

section
variable {prog : Program} {w : World} {A : Around} {h₀ : Heap} {L : Addr} {m : Str → Option Value} {env : Env} {news : List (Addr × Obj)}
def src_want1 {elt : Expr} {xn : Str} {scope : Scope} {cl : List (Str × Addr)} {Fin : Shared → List Value → List (Addr × Obj) → Prop} {r : Addr} {t u v : Tok} {s₁ : Shared} {tl : List (Addr × Obj)} {vs : List Value} {x y : Int} {g : Nat → Dat}
    (hF : FlatIs tl vs x y g) (hh : A.handled = none) (F : Fr h₀ L s₁.heap m) (N : News h₀ L s₁.heap news) (hr : IsRange s₁.heap r 0 (y.fmod 6) 1 t u v) :=
  src_want (prog := prog) (w := w) (A := A) (h₀ := h₀) (L := L) (m := m) (env := env) (news := news) (elt := elt) (xn := xn) (scope := scope) (cl := cl) (Fin := Fin) (r := r) (s₁ := s₁) (x.fmod 4).toNat hF hh F N hr
def src_want2 {elt : Expr} {xn : Str} {scope : Scope} {cl : List (Str × Addr)} {Fin : Shared → List Value → List (Addr × Obj) → Prop} {r : Addr} {t u v : Tok} {s₁ : Shared} {tl : List (Addr × Obj)} {vs : List Value} {x y : Int} {g : Nat → Dat}
    (hF : FlatIs tl vs x y g) (hh : A.handled = none) (F : Fr h₀ L s₁.heap m) (N : News h₀ L s₁.heap news) (hr : IsRange s₁.heap r 0 (y.fmod 6) 1 t u v) :=
  src_want (prog := prog) (w := w) (A := A) (h₀ := h₀) (L := L) (m := m) (env := env) (news := news) (elt := elt) (xn := xn) (scope := scope) (cl := cl) (Fin := Fin) (r := r) (s₁ := s₁) ((x.fmod 4).toNat + 1) hF hh F N hr
theorem step_ne {y : Int} {j : Nat} (h : j < (y.fmod 6 - 0).toNat) : some (y.fmod 6) ≠ some 0 := by
  intro e
  have e' := Option.some.inj e
  rw [e'] at h
  exact absurd h (by simp)
theorem sz4 (x : Int) : (x.fmod 4).toNat ≤ sizeLine := by
  have h2 := fmod_hi x (n := 4) (by decide)
  rw [sizeLine_eq]; omega
theorem off1_all {D : Addr} : ∀ {l : List (Addr × Obj)}, Off1 D l → ∀ p ∈ l, p.1 ≠ D
  | [], _, _, h => nomatch h
  | _ :: _, h, p, hp => by
    rcases List.mem_cons.mp hp with rfl | hp
    · exact h.1
    · exact off1_all h.2 p hp
end
end Mine
namespace Mine
open PySem PySem.W PySem.Spec PySem.Calls PyProof.Rows
theorem len6 {tl : List (Addr × Obj)} {vs : List Value} {f : Nat → Dat} {y : Int} (h : DatAll tl vs ((List.range (y.fmod 6).toNat).map f)) : vs.length ≤ sizeLine := by
  have h2 := fmod_hi y (n := 6) (by decide)
  exact len_of (n := (y.fmod 6).toNat) h (by simp) (by rw [sizeLine_eq]; omega)
end Mine
namespace Mine
open PySem PySem.W PySem.Spec PySem.Calls PyProof.Rows PyProof.Rows.LCg
theorem k8_6 (y : Int) : (y.fmod 6).toNat < 8 := by
  have h2 := fmod_hi y (n := 6) (by decide)
  omega
theorem k8_4 (y : Int) : (y.fmod 4).toNat < 8 := by
  have h2 := fmod_hi y (n := 4) (by decide)
  omega
theorem k8_5 (y : Int) : (y.fmod 4).toNat + 1 < 8 := by
  have h2 := fmod_hi y (n := 4) (by decide)
  omega
section
variable {prog : Program} {w : World} {A : Around} {E : Value → Shared → Prop} {s : Shared} {h₀ : Heap} {L : Addr} {m : Str → Option Value} {env : Env} {news : List (Addr × Obj)}
/-- the table that the def's cell `m` holds -/
structure TabAt (news tl : List (Addr × Obj)) (cm : Addr) (l : Addr) (vs : List Value) (f : Nat → Nat → Dat) (ρ κ : Nat) : Prop where
  cell : ∃ om : Obj, (cm, om) ∈ news ∧ om.data = .cell (some (.ref l))
  list : ∃ nn : Nat, (l, listOf vs.toArray nn) ∈ news
  dat : DatAll tl vs (tabD f ρ κ)
  sub : ∀ p ∈ tl, p ∈ news
theorem TabAt.of {tl : List (Addr × Obj)} {cm l : Addr} {vs : List Value} {f : Nat → Nat → Dat} {ρ κ nn : Nat} {om : Obj} (hc : (cm, om) ∈ news) (hd : om.data = .cell (some (.ref l))) (hl : (l, listOf vs.toArray nn) ∈ news) (hM : DatAll tl vs (tabD f ρ κ)) (hs : ∀ p ∈ tl, p ∈ news) : TabAt news tl cm l vs f ρ κ :=
  ⟨⟨om, hc, hd⟩, ⟨nn, hl⟩, hM, hs⟩
theorem TabAt.more {tl news' : List (Addr × Obj)} {cm l : Addr} {vs : List Value} {f : Nat → Nat → Dat} {ρ κ : Nat} (h : TabAt news tl cm l vs f ρ κ) (hs : ∀ p ∈ news, p ∈ news') : TabAt news' tl cm l vs f ρ κ :=
  ⟨let ⟨o, a, b⟩ := h.cell; ⟨o, hs _ a, b⟩, let ⟨n, a⟩ := h.list; ⟨n, hs _ a⟩, h.dat, fun p hp => hs p (h.sub p hp)⟩

theorem src_trO2 {elt : Expr} {xn ms : Str} {scope : Scope} {cm l : Addr} {Q : Value → Shared → Prop} {r : Addr} {b : Int} {t u v : Tok} {s₁ : Shared} {tl : List (Addr × Obj)} {vs : List Value} {f : Nat → Nat → Dat} {ρ κ : Nat}
    (hT : TabAt news tl cm l vs f ρ κ) (hh : A.handled = none) (F : Fr h₀ L s₁.heap m) (N : News h₀ L s₁.heap news) (hr : IsRange s₁.heap r 0 b 1 t u v) (hb : b = (κ : Int)) (hκ : κ < 8)
    (turn : ∀ i ys ds add t I oI C oC c oc D h tk (E' : Value → Shared → Prop), i < κ → PrTab (fun j i => f i j) ρ i ds → oc.data = .cell (some (.int (0 + (i : Int)) t)) → Fr h₀ L h m → News h₀ L h ((I, oI) :: (C, oC) :: (c, oc) :: (D, lst ys) :: (news ++ add)) → TabAt ((I, oI) :: (C, oC) :: (c, oc) :: (D, lst ys) :: (news ++ add)) tl cm l vs f ρ κ →
      wpAny (model prog w) A (eval elt (compEnvC scope ((xn, c) :: [(ms, cm)]) C env)) (Made h₀ L m { s₁ with heap := h, toks := tk } ((I, oI) :: (C, oC) :: (c, oc) :: (D, lst ys) :: (news ++ add)) (fun y add2 => ∃ d, DatIn ((tl ++ add) ++ add2) y d ∧ PrTab (fun j i => f i j) ρ (i + 1) (ds ++ [d]))) E' { s₁ with heap := h, toks := tk })
    (fin : ∀ D ys add h tk, DatAll (tl ++ add) ys (tabD (fun j i => f i j) κ ρ) → (∀ p ∈ add, ∀ q ∈ news, p.1 ≠ q.1) → Fr h₀ L h m → News h₀ L h ((D, lst ys) :: (news ++ add)) → (∀ p ∈ news ++ add, p.1 ≠ D) → Q (.ref D) { s₁ with heap := h, toks := tk }) :
    CellSrc prog w A h₀ L m env elt xn scope [(ms, cm)] Q (.ref r) s₁ :=
  src_trO hT.dat hh F N hr hb hκ (fun i ys ds add t I oI C oC c oc D h tk E' hi _ hp _ hc F' N' => turn i ys ds add t I oI C oC c oc D h tk E' hi hp hc F' N' (hT.more fun p hp => List.mem_cons_of_mem _ (List.mem_cons_of_mem _ (List.mem_cons_of_mem _ (List.mem_cons_of_mem _ (List.mem_append_left _ hp))))))
    fun D ys add h tk hD hO F' N' o' => fin D ys add h tk hD hO F' N' (off1_all o')

theorem src_trI2 {elt : Expr} {xn ms js : Str} {scope : Scope} {cm c l : Addr} {oc : Obj} {tj : Tok} {j : Nat} {Fin : Shared → List Value → List (Addr × Obj) → Prop} {r : Addr} {b : Int} {t u v : Tok} {s₁ : Shared} {tl : List (Addr × Obj)} {vs : List Value} {f : Nat → Nat → Dat} {ρ κ : Nat}
    (hT : TabAt news tl cm l vs f ρ κ) (_hc : (c, oc) ∈ news) (hcd : oc.data = .cell (some (.int (0 + (j : Int)) tj))) (hh : A.handled = none) (F : Fr h₀ L s₁.heap m) (N : News h₀ L s₁.heap news) (hr : IsRange s₁.heap r 0 b 1 t u v) (hb : b = (vs.length : Int)) (hρ : ρ < 8)
    (turn : ∀ i ys ds add t I oI C oC D m₂ h tk (E' : Value → Shared → Prop), i < ρ → PrRow (fun i => f i j) i ds → NsObj oC m₂ → m₂ xn = some (.int (0 + (i : Int)) t) → Fr h₀ L h m → News h₀ L h ((I, oI) :: (C, oC) :: (D, lst ys) :: (news ++ add)) → TabAt ((I, oI) :: (C, oC) :: (D, lst ys) :: (news ++ add)) tl cm l vs f ρ κ →
      wpAny (model prog w) A (eval elt (compEnvC scope [(ms, cm), (js, c)] C env)) (Made h₀ L m { s₁ with heap := h, toks := tk } ((I, oI) :: (C, oC) :: (D, lst ys) :: (news ++ add)) (fun y add2 => ∃ d, DatIn ((tl ++ add) ++ add2) y d ∧ PrRow (fun i => f i j) (i + 1) (ds ++ [d]))) E' { s₁ with heap := h, toks := tk })
    (fin : ∀ g' ys add, DatAll (tl ++ add) ys ((List.range ρ).map fun i => f i j) → (∀ p ∈ add, ∀ q ∈ news, p.1 ≠ q.1) → Fin { s₁ with heap := g' } ys (news ++ add)) :
    CompSrc prog w A h₀ L m env elt xn scope [(ms, cm), (js, c)] Fin (.ref r) s₁ :=
  have _ := hcd
  src_trI j hT.dat hh F N hr hb hρ (fun i ys ds add t I oI C oC D m₂ h tk E' hi _ hp _ hC hx F' N' => turn i ys ds add t I oI C oC D m₂ h tk E' hi hp hC hx F' N' (hT.more fun p hp => List.mem_cons_of_mem _ (List.mem_cons_of_mem _ (List.mem_cons_of_mem _ (List.mem_append_left _ hp))))) fin

variable {value slice : PySem.Expr} {Q : Value → Shared → Prop}
theorem item_tab {tl : List (Addr × Obj)} {cm l : Addr} {vs : List Value} {f : Nat → Nat → Dat} {ρ κ i : Nat} {u : Tok} (N : News h₀ L s.heap news) (hT : TabAt news tl cm l vs f ρ κ) (hi : i < ρ) (hρ : ρ < 8)
    (h : ∀ a es n, (a, listOf (List.toArray es) n) ∈ news → DatAll tl es ((List.range κ).map (f i)) → Q (.ref a) s)
    (hs : subscripted slice false (.ref l) (.int (0 + (i : Int)) u) = operate [.ref l, .int (0 + (i : Int)) u] (getItem (.ref l) (.int (0 + (i : Int)) u))) :
    wpAny (model prog w) A (subscriptTail value slice (.ref l) (.int (0 + (i : Int)) u)) Q E s := by
  obtain ⟨nn, hl⟩ := hT.list
  have e : (0 + (i : Int)).toNat = i := by omega
  refine item_dat (d := Dat.list ((List.range κ).map (f i))) (N.isList hl) hT.dat (by omega) (by omega) (by rw [e]; simp [tabD, hi]) (fun v _ hd => ?_) hs
  obtain ⟨a, es, n, rfl, hm, he⟩ := datIn_list hd
  exact h a es n (hT.sub _ hm) he
theorem item_row {tl : List (Addr × Obj)} {a : Addr} {es : List Value} {n : Nat} {g : Nat → Dat} {κ j : Nat} {u : Tok} (N : News h₀ L s.heap news) (ha : (a, listOf es.toArray n) ∈ news) (he : DatAll tl es ((List.range κ).map g)) (hj : j < κ) (hκ : κ < 8)
    (h : ∀ y, DatIn tl y (g j) → Q y s)
    (hs : subscripted slice false (.ref a) (.int (0 + (j : Int)) u) = operate [.ref a, .int (0 + (j : Int)) u] (getItem (.ref a) (.int (0 + (j : Int)) u))) :
    wpAny (model prog w) A (subscriptTail value slice (.ref a) (.int (0 + (j : Int)) u)) Q E s := by
  have e : (0 + (j : Int)).toNat = j := by omega
  exact item_dat (N.isList ha) he (by omega) (by omega) (by rw [e]; simp [hj]) (fun v _ hd => h v hd) hs
theorem made_inner2 {h₀ : Heap} {L D : Addr} {m : Str → Option Value} {s : Shared} {base tl add add3 : List (Addr × Obj)} {Pr : Nat → List Dat → Prop} {i : Nat} {ds es : List Dat} {zs : List Value} {h' : Heap} {tk : Nat}
    (F : Fr h₀ L h' m) (N : News h₀ L h' ((D, lst zs) :: (base ++ add3))) (o1 : ∀ p ∈ base ++ add3, p.1 ≠ D) (o3 : ∀ p ∈ add3, ∀ q ∈ base, p.1 ≠ q.1) (hz : DatAll (tl ++ add3) zs es) (hp : Pr (i + 1) (ds ++ [Dat.list es])) :
    Made h₀ L m s base (fun y add2 => ∃ d, DatIn ((tl ++ add) ++ add2) y d ∧ Pr (i + 1) (ds ++ [d])) (.ref D) { s with heap := h', toks := tk } := by
  have mk : ∀ {l : List (Addr × Obj)}, (∀ p ∈ l, p.1 ≠ D) → Off1 D l := by
    intro l
    induction l with
    | nil => intro _; trivial
    | cons a r ih => intro h; exact ⟨h a List.mem_cons_self, ih fun p hp => h p (List.mem_cons_of_mem _ hp)⟩
  exact made_inner F N (mk o1) o3 hz hp
end
end Mine
namespace Mine
open PySem PySem.W PySem.Spec PySem.Calls PyProof.Rows PyProof.Rows.LCg
section
variable {prog : Program} {w : World} {A : Around} {E : Value → Shared → Prop} {s : Shared} {h₀ : Heap} {L : Addr} {m : Str → Option Value} {env : Env} {news : List (Addr × Obj)} {Q : Value → Shared → Prop}
theorem len_tab {tl : List (Addr × Obj)} {cm l : Addr} {vs : List Value} {f : Nat → Nat → Dat} {ρ κ : Nat} (N : News h₀ L s.heap news) (hT : TabAt news tl cm l vs f ρ κ) (hρ : ρ < 8) (h : Q (.int (ρ : Int) (s.toks + 1)) { s with toks := s.toks + 1 + 1 }) :
    wpAny (model prog w) A (call (.builtin "len") [.ref l]) Q E s := by
  obtain ⟨nn, hl⟩ := hT.list
  have e : vs.toArray.size = ρ := by rw [List.size_toArray, hT.dat.length, tab_length]
  refine Calls.call_len_list (N.isList hl) (by rw [e]; omega) ?_
  rw [e]
  exact h
theorem src_trI3 {elt : Expr} {xn ms js : Str} {scope : Scope} {cm c l : Addr} {oc : Obj} {tj : Tok} {j : Nat} {Fin : Shared → List Value → List (Addr × Obj) → Prop} {r : Addr} {t u v : Tok} {s₁ : Shared} {tl : List (Addr × Obj)} {vs : List Value} {f : Nat → Nat → Dat} {ρ κ : Nat}
    (hT : TabAt news tl cm l vs f ρ κ) (hc : (c, oc) ∈ news) (hcd : oc.data = .cell (some (.int (0 + (j : Int)) tj))) (hh : A.handled = none) (F : Fr h₀ L s₁.heap m) (N : News h₀ L s₁.heap news) (hr : IsRange s₁.heap r 0 (ρ : Int) 1 t u v) (hρ : ρ < 8)
    (turn : ∀ i ys ds add t I oI C oC D m₂ h tk (E' : Value → Shared → Prop), i < ρ → PrRow (fun i => f i j) i ds → NsObj oC m₂ → m₂ xn = some (.int (0 + (i : Int)) t) → Fr h₀ L h m → News h₀ L h ((I, oI) :: (C, oC) :: (D, lst ys) :: (news ++ add)) → TabAt ((I, oI) :: (C, oC) :: (D, lst ys) :: (news ++ add)) tl cm l vs f ρ κ →
      wpAny (model prog w) A (eval elt (compEnvC scope [(ms, cm), (js, c)] C env)) (Made h₀ L m { s₁ with heap := h, toks := tk } ((I, oI) :: (C, oC) :: (D, lst ys) :: (news ++ add)) (fun y add2 => ∃ d, DatIn ((tl ++ add) ++ add2) y d ∧ PrRow (fun i => f i j) (i + 1) (ds ++ [d]))) E' { s₁ with heap := h, toks := tk })
    (fin : ∀ g' ys add, DatAll (tl ++ add) ys ((List.range ρ).map fun i => f i j) → (∀ p ∈ add, ∀ q ∈ news, p.1 ≠ q.1) → Fin { s₁ with heap := g' } ys (news ++ add)) :
    CompSrc prog w A h₀ L m env elt xn scope [(ms, cm), (js, c)] Fin (.ref r) s₁ :=
  src_trI2 hT hc hcd hh F N hr (by rw [hT.dat.length, tab_length]) hρ turn fin
theorem ne_same {a b : Addr} {na nb : Nat} {n₁ n₂ : List (Addr × Obj)} {xs ys : List Value} {ds : List Dat} (N : News h₀ L s.heap news) (ma : (a, listOf xs.toArray na) ∈ news) (Da : DatAll n₁ xs ds) (sa : ∀ p ∈ n₁, p ∈ news) (mb : (b, listOf ys.toArray nb) ∈ news) (Db : DatAll n₂ ys ds) (sb : ∀ p ∈ n₂, p ∈ news)
    (hok : ∀ d ∈ ds, kqdOk 8 d = true) (hu : A.units + 64 < cLine) (h : Q (.bool false) s) : wpAny (model prog w) A (compareOp .NotEq (.ref a) (.ref b)) Q E s :=
  kqd_ne N ma rfl rfl Da sa mb rfl rfl Db sb hok hok hu (by simpa using h)
theorem pair_ok {d : Dat} (h : IsPair d) (n : Nat) : kqdOk (n + 1) d = true := by
  obtain ⟨a, b, rfl⟩ := h
  simp [kqdOk]
theorem tab_ok {f : Nat → Nat → Dat} (h : ∀ i j, IsPair (f i j)) (ρ κ : Nat) : ∀ d ∈ tabD f ρ κ, kqdOk 8 d = true := by
  intro d hd
  obtain ⟨i, _, rfl⟩ := List.mem_map.mp hd
  simp only [kqdOk, List.all_eq_true]
  intro e he
  obtain ⟨j, _, rfl⟩ := List.mem_map.mp he
  exact pair_ok (h i j) 6
theorem tab_okR {g : Nat → Dat} (h : ∀ k, IsPair (g k)) (k ρ κ : Nat) : ∀ d ∈ tabD (rowsG g k) ρ κ, kqdOk 8 d = true := tab_ok (fun i j => h (i * k + j)) ρ κ
theorem tab_okF {g : Nat → Dat} (h : ∀ k, IsPair (g k)) (k ρ κ : Nat) : ∀ d ∈ tabD (fun j i => rowsG g k i j) ρ κ, kqdOk 8 d = true := tab_ok (fun j i => h (i * k + j)) ρ κ
end
end Mine
namespace Mine
open PySem PySem.W PySem.Spec PySem.Calls PyProof.Rows PyProof.Rows.LCg
theorem off1_of {D : Addr} : ∀ {l : List (Addr × Obj)}, (∀ p ∈ l, p.1 ≠ D) → Off1 D l
  | [], _ => trivial
  | a :: _, h => ⟨h a List.mem_cons_self, off1_of fun p hp => h p (List.mem_cons_of_mem _ hp)⟩
theorem off_use {D : Addr} {l : List (Addr × Obj)} (h : ∀ p ∈ l, p.1 ≠ D) (p : Addr × Obj) (hp : p ∈ l) : p.1 ≠ D := h p hp
section
variable {prog : Program} {w : World} {A : Around} {E : Value → Shared → Prop} {s : Shared} {h₀ : Heap} {L : Addr} {m : Str → Option Value} {news news' : List (Addr × Obj)} {Q : Value → Shared → Prop}
theorem append_tab {D Dl : Addr} {vs zs : List Value} {n nz : Nat} {tl tl0 : List (Addr × Obj)} {g : Nat → Dat} {κ r : Nat} (F : Fr h₀ L s.heap m) (N : News h₀ L s.heap news)
    (U : Upd D (listOf vs.toArray n) (listOf (vs ++ [Value.ref Dl]).toArray (n + 1)) news news') (hM : DatAll tl vs (tabD (rowsG g κ) r κ)) (_hlz : (Dl, listOf zs.toArray nz) ∈ news) (hz : DatAll tl0 zs ((List.range κ).map (rowsG g κ r))) (hr : r < 8)
    (h : ∀ h', Fr h₀ L h' m → News h₀ L h' news' → DatAll ((tl ++ tl0) ++ [(Dl, listOf zs.toArray nz)]) (vs ++ [Value.ref Dl]) (tabD (rowsG g κ) (r + 1) κ) → Q .none { s with heap := h' }) :
    wpAny (model prog w) A (call (.builtin "list.append") [.ref D, .ref Dl]) Q E s := by
  have hD : DatAll ((tl ++ tl0) ++ [(Dl, listOf zs.toArray nz)]) (vs ++ [Value.ref Dl]) (tabD (rowsG g κ) (r + 1) κ) := by
    have e : tabD (rowsG g κ) (r + 1) κ = tabD (rowsG g κ) r κ ++ [Dat.list ((List.range κ).map (rowsG g κ r))] := by
      unfold tabD; rw [List.range_succ, List.map_append]; rfl
    rw [e]
    refine (hM.mono fun p hp => List.mem_append_left _ (List.mem_append_left _ hp)).append (.one (DatIn.list (List.mem_append_right _ List.mem_cons_self) (hz.mono fun p hp => List.mem_append_left _ (List.mem_append_right _ hp))))
  refine append_K (its := vs.toArray) F N (by rw [List.push_toArray]; exact U) (fun h' F' N' => h h' F' N' hD) ?_
  rw [List.size_toArray, hM.length, tab_length, sizeLine_eq]
  omega
end
end Mine
namespace Mine
open PySem PySem.W PySem.Spec PySem.Calls PyProof.Rows PyProof.Rows.LCg
theorem news_drop2 {h₀ h : Heap} {L : Addr} {a b : Addr × Obj} {l : List (Addr × Obj)} (N : News h₀ L h (a :: b :: l)) : News h₀ L h (a :: l) := fun p hp => by
  rcases List.mem_cons.mp hp with rfl | hp
  · exact N _ List.mem_cons_self
  · exact N p (List.mem_cons_of_mem _ (List.mem_cons_of_mem _ hp))
theorem off_sym {D a : Addr} {o : Obj} {l : List (Addr × Obj)} (h : ∀ p ∈ l, p.1 ≠ D) (hm : (a, o) ∈ l) : D ≠ a := Ne.symm (h _ hm)
theorem lt_sym {D a : Addr} {o : Obj} {l : List (Addr × Obj)} (h : ∀ p ∈ l, p.1 < D) (hm : (a, o) ∈ l) : D ≠ a := Ne.symm (Nat.ne_of_lt (h _ hm))
theorem off_fst {D a : Addr} {o : Obj} {l : List (Addr × Obj)} (h : ∀ p ∈ l, p.1 ≠ D) (hm : (a, o) ∈ l) : a ≠ D := h _ hm
end Mine

set_option maxRecDepth 100000
namespace Mine
open PySem PySem.Spec PySem.Calls PyProof.Rows PyProof.Rows.LCg

section
variable {prog : Program} {w : World} {A : Around} {E : Value → Shared → Prop} {s : Shared} {h₀ : Heap} {L : Addr} {env : Env}

/-- how a turn of a loop ends: the iterator is as it was, the names that the loop does not store too, and what the loop keeps of the ledger holds again -/
def TurnG (h₀ : Heap) (L I : Addr) (oI : Obj) (st : List Str) (m₀ : Str → Option Value) (s₁ : Shared) (J : List (Addr × Obj) → Prop) (Q : Flow → Shared → Prop) (f : Flow) (s₃ : Shared) : Prop :=
  match f with
  | .ret v => Q (.ret v) s₃
  | .brk => Q .next s₃
  | _ => ∃ h' tk' m' nw', s₃ = { s₁ with heap := h', toks := tk' } ∧ Fr h₀ L h' m' ∧ News h₀ L h' ((I, oI) :: nw') ∧ (∀ p ∈ nw', p.1 ≠ I) ∧ (∀ y, st.contains y = false → m' y = m₀ y) ∧ J nw'

theorem fr_st {h : Heap} {st : List Str} {m₀ m₁ : Str → Option Value} (hm : ∀ y, st.contains y = false → m₁ y = m₀ y) (F : Fr h₀ L h m₁) : Fr h₀ L h (fun y => if st.contains y then m₁ y else m₀ y) := by
  have e : (fun y => if st.contains y then m₁ y else m₀ y) = m₁ := by
    funext y
    by_cases hy : st.contains y = true
    · rw [if_pos hy]
    · rw [if_neg hy, hm y (by simpa using hy)]
  rw [e]; exact F

theorem skip_name {st : List Str} {x y : Str} {a b c : Option Value} (hx : st.contains x = true) (hy : st.contains y = false) (h : b = c) : (if y = x then a else b) = c := by
  rw [if_neg, h]
  rintro rfl
  rw [hx] at hy; cases hy
theorem skip_many {st st' : List Str} {y : Str} {a b c : Option Value} (hx : st'.all (fun x => st.contains x) = true) (hy : st.contains y = false) (h : b = c) : (if st'.contains y then a else b) = c := by
  rw [if_neg, h]
  intro hc
  have := List.all_eq_true.mp hx y (List.contains_iff_mem.mp hc)
  rw [hy] at this; cases this

theorem go_list {target : Expr} (ht : (∃ x p, target = .Name x p) ∨ ∃ es k p, target = .Tuple es k p) {I l : Addr} {i : Nat} {v : Value} {Q : Unit → Shared → Prop} (hit : s.heap.IsListIter I l i) (hQ : Q () s) :
    wpAny (model prog w) A (letOwnedTupleGo target (.ref I) v) Q E s := by
  rcases ht with ⟨x, p, rfl⟩ | ⟨es, k, p, rfl⟩
  · exact wpAny_pure hQ
  · cases v with
    | ref T => exact wpAny_letOwnedTupleGo_listiter hit hQ
    | _ => exact wpAny_pure hQ

def ForListSrc (prog : Program) (w : World) (A : Around) (h₀ : Heap) (env : Env) (target : Expr) (body : List Stmt) (Q : Flow → Shared → Prop) (E : Value → Shared → Prop) (xv : Value) (s₁ : Shared) : Prop :=
  ∃ l vs k news m₀ st, ∃ J : Nat → List (Addr × Obj) → Prop, xv = .ref l ∧ A.handled = none ∧ Fr h₀ env.locals s₁.heap m₀ ∧ News h₀ env.locals s₁.heap news ∧ (∀ i nw, J i nw → (l, ({ cls := .type "list", data := .seq (List.toArray vs) k } : Obj)) ∈ nw) ∧ J 0 news ∧
    (∀ (i : Nat) (v : Value) (u : Str → Option Value) nw I oI h tk, vs[i]? = some v → J i nw → Fr h₀ env.locals h (fun y => if List.contains st y then u y else m₀ y) → News h₀ env.locals h ((I, oI) :: nw) → (∀ p ∈ nw, p.1 ≠ I) →
      wpAny (model prog w) A (assign target env v) (fun _ s₂ => wpAny (model prog w) A (execs body env) (TurnG h₀ env.locals I oI st m₀ s₁ (J (i + 1)) Q) E s₂) E { s₁ with heap := h, toks := tk }) ∧
    (∀ (u : Str → Option Value) nw h tk, J vs.length nw → Fr h₀ env.locals h (fun y => if List.contains st y then u y else m₀ y) → News h₀ env.locals h nw → Q .next { s₁ with heap := h, toks := tk })

theorem For_list {Q : Flow → Shared → Prop} {target : Expr} {pos : Pos} {iter : Expr} {body : List Stmt} {m : Str → Option Value} (_F : Fr h₀ env.locals s.heap m) (ht : (∃ x p, target = .Name x p) ∨ ∃ es k p, target = .Tuple es k p)
    (h : wpAny (model prog w) A (eval iter env) (ForListSrc prog w A h₀ env target body Q E) E s)
    (hs : ∀ x, foldedSetIterable iter env x = pure x := by intro _; rfl) (hE : PassesOwn (model prog w) A env E := by passes_own) :
    wpAny (model prog w) A (exec (.For target iter body [] pos) env) Q E s := by
  refine wpAny_For (wpAny_mono h (fun xv s₁ h₁ => ?_) fun _ _ e => e) hs
  obtain ⟨l, vs, k, news, m₀, st, J, rfl, hh, F, N, hl, h0, step, fin⟩ := h₁
  have hol := (N _ (hl 0 news h0)).1
  have hls : s₁.heap.IsList l vs.toArray := ⟨_, hol, rfl, k, rfl⟩
  refine wpAny_pyIter_list hls ?_
  generalize hI : s₁.heap.objs.size = I
  have up : ∀ b' o, s₁.heap.get? b' = some o → (s₁.heap.push { cls := .type "list_iterator", data := .fields #[.ref l, .int 0 0] }).get? b' = some o := fun _ _ e => Heap.get?_push_of_some _ e
  have hI₀ : h₀.get? I = none := hI ▸ next_is_new F
  have hIL : env.locals ≠ I := hI ▸ Nat.ne_of_lt F.ns.lt
  refine codeAny_forLoop_any
    (fun k' s' => ∃ h' tk i m₁ nw, s' = { s₁ with heap := h', toks := tk } ∧ i ≤ vs.length ∧ k' = vs.length + 1 - i ∧ h'.IsListIter I l i ∧ Fr h₀ env.locals h' m₁ ∧ News h₀ env.locals h' nw ∧ (∀ p ∈ nw, p.1 ≠ I) ∧ (∀ y, st.contains y = false → m₁ y = m₀ y) ∧ J i nw) ?_ (vs.length + 1)
    ⟨_, _, 0, m₀, news, rfl, Nat.zero_le _, rfl, ⟨_, hI ▸ Heap.get?_push_size _ rfl, rfl, rfl⟩, F.keeps up, N.grown up, fun p hp => hI ▸ Nat.ne_of_lt (Heap.lt_size (N p hp).1), fun _ _ => rfl, h0⟩
  rintro k' s' ⟨h', tk, i, m₁, nw, rfl, hi, rfl, hit, F', N', off', hm, hJ⟩
  have hl' : h'.IsList l vs.toArray := ⟨_, (N' _ (hl i nw hJ)).1, rfl, k, rfl⟩
  by_cases hlt : i < vs.length
  · have hv : vs[i]? = some vs[i] := List.getElem?_eq_getElem hlt
    refine wpAny_pyNext_list_item (i := i) (x := vs[i]) hit hl' (by simpa using hv) fun h₂ hit₂ hs₂ => ?_
    obtain ⟨oI, eI, cI, dI⟩ := id hit₂
    replace hs₂ : Heap.SameBut I h' h₂ := hs₂
    have F₂ : Fr h₀ env.locals h₂ m₁ := F'.change hs₂ (Ne.symm hIL) hI₀
    have N₂ : News h₀ env.locals h₂ ((I, oI) :: nw) := fun p hp => by
      rcases List.mem_cons.mp hp with rfl | hp
      · exact ⟨eI, Ne.symm hIL, hI₀⟩
      · exact ⟨(hs₂.2 _ (off' p hp)).trans (N' p hp).1, (N' p hp).2⟩
    refine go_list ht hit₂ ?_
    refine wpAny_mono (step i vs[i] m₁ nw I oI h₂ tk hv hJ (fr_st hm F₂) N₂ off') (fun _ s₂ h₂' => wpAny_passesOwn hE (wpAny_mono h₂' (fun f s₃ h₃ => ?_) fun _ _ e => e)) hE
    have fin' : (∃ h' tk' m' nw', s₃ = { s₁ with heap := h', toks := tk' } ∧ Fr h₀ env.locals h' m' ∧ News h₀ env.locals h' ((I, oI) :: nw') ∧ (∀ p ∈ nw', p.1 ≠ I) ∧ (∀ y, st.contains y = false → m' y = m₀ y) ∧ J (i + 1) nw') →
        ∃ k', k' < vs.length + 1 - i ∧ ∃ h' tk i m₁ nw, s₃ = { s₁ with heap := h', toks := tk } ∧ i ≤ vs.length ∧ k' = vs.length + 1 - i ∧ h'.IsListIter I l i ∧ Fr h₀ env.locals h' m₁ ∧ News h₀ env.locals h' nw ∧ (∀ p ∈ nw, p.1 ≠ I) ∧ (∀ y, st.contains y = false → m₁ y = m₀ y) ∧ J i nw := by
      rintro ⟨h₄, tk₄, m₄, nw₄, rfl, F₄, N₄, off₄, hm₄, J₄⟩
      exact ⟨vs.length + 1 - (i + 1), by omega, h₄, tk₄, i + 1, m₄, nw₄, rfl, hlt, rfl, ⟨oI, (N₄ _ List.mem_cons_self).1, cI, dI⟩, F₄, fun p hp => N₄ p (List.mem_cons_of_mem _ hp), off₄, hm₄, J₄⟩
    cases f with
    | ret v => exact h₃
    | brk => exact h₃
    | cont => exact fin' h₃
    | next => exact fin' h₃
  · obtain rfl : i = vs.length := Nat.le_antisymm hi (Nat.not_lt.mp hlt)
    refine wpAny_pyNext_list_end hh hit hl' (by simp) fun h₂ hs₂ => wpAny_execs_nil ?_
    replace hs₂ : Heap.ExtBut I h' h₂ := hs₂
    have kp : ∀ b o, b ∉ [I] → h'.get? b = some o → h₂.get? b = some o := fun b o hb e => hs₂ b o (by simpa using hb) e
    exact fin m₁ nw h₂ tk hJ (fr_st hm (fr_but F' kp hIL hI₀)) (news_but N' kp off')

def ForRangeSrc (prog : Program) (w : World) (A : Around) (h₀ : Heap) (env : Env) (x : Str) (body : List Stmt) (Q : Flow → Shared → Prop) (E : Value → Shared → Prop) (xv : Value) (s₁ : Shared) : Prop :=
  ∃ r a b t u v n news m₀ st, ∃ J : Nat → List (Addr × Obj) → Prop, xv = .ref r ∧ A.handled = none ∧ Fr h₀ env.locals s₁.heap m₀ ∧ News h₀ env.locals s₁.heap news ∧
    IsRange s₁.heap r a b 1 t u v ∧ Builtin.Range.small a b 1 = true ∧ Builtin.Range.rangeSize a b 1 = ((n : Nat) : Int) ∧ List.contains st x = true ∧ J 0 news ∧
    (∀ (i : Nat) (u : Str → Option Value) (t : Tok) nw I oI h tk, i < n → J i nw → Fr h₀ env.locals h (fun y => if y = x then some (.int (a + (i : Int)) t) else if List.contains st y then u y else m₀ y) → News h₀ env.locals h ((I, oI) :: nw) → (∀ p ∈ nw, p.1 ≠ I) →
      wpAny (model prog w) A (execs body env) (TurnG h₀ env.locals I oI st m₀ s₁ (J (i + 1)) Q) E { s₁ with heap := h, toks := tk }) ∧
    (∀ (u : Str → Option Value) nw h tk, J n nw → Fr h₀ env.locals h (fun y => if List.contains st y then u y else m₀ y) → News h₀ env.locals h nw → Q .next { s₁ with heap := h, toks := tk })

theorem For_range {Q : Flow → Shared → Prop} {x : Str} {px pos : Pos} {iter : Expr} {body : List Stmt} {m : Str → Option Value} (_F : Fr h₀ env.locals s.heap m) (hx : env.kindOf x = some .local)
    (hp : (env.scope.kind == .class || (env.scope.kind == .module && env.locals != env.globals)) = false)
    (h : wpAny (model prog w) A (eval iter env) (ForRangeSrc prog w A h₀ env x body Q E) E s)
    (hs : ∀ x, foldedSetIterable iter env x = pure x := by intro _; rfl) (hE : PassesOwn (model prog w) A env E := by passes_own) :
    wpAny (model prog w) A (exec (.For (.Name x px) iter body [] pos) env) Q E s := by
  refine wpAny_For (wpAny_mono h (fun xv s₁ h₁ => ?_) fun _ _ e => e) hs
  obtain ⟨r, a, b, t, u, v, n, news, m₀, st, J, rfl, hh, F, N, hr, hsm, hn, hst, h0, step, fin⟩ := h₁
  refine wpAny_pyIter_range hr hsm ?_
  generalize hI : s₁.heap.objs.size = I
  have up : ∀ b' o, s₁.heap.get? b' = some o → (s₁.heap.push { cls := .type "range_iterator", data := .fields #[rawInt a, rawInt (Builtin.Range.rangeSize a b 1), rawInt 1] }).get? b' = some o := fun _ _ e => Heap.get?_push_of_some _ e
  have hI₀ : h₀.get? I = none := hI ▸ next_is_new F
  have hIL : env.locals ≠ I := hI ▸ Nat.ne_of_lt F.ns.lt
  have W := range_walks (prog := prog) (w := w) (A := A) (I := I) hh a n
  refine codeAny_forLoop
    (fun k s' => ∃ h' tk i m₁ nw, s' = { s₁ with heap := h', toks := tk } ∧ i ≤ n ∧ k = n + 1 - i ∧ IsRangeIter h' I (a + (i : Nat) * 1) ((n : Int) - (i : Nat)) 1 ∧ Fr h₀ env.locals h' m₁ ∧ News h₀ env.locals h' nw ∧ (∀ p ∈ nw, p.1 ≠ I) ∧ (∀ y, st.contains y = false → m₁ y = m₀ y) ∧ J i nw) ?_ (n + 1)
    ⟨_, _, 0, m₀, news, rfl, Nat.zero_le _, rfl, ?_, F.keeps up, N.grown up, fun p hp => hI ▸ Nat.ne_of_lt (Heap.lt_size (N p hp).1), fun _ _ => rfl, h0⟩
  · rintro k s' ⟨h', tk, i, m₁, nw, rfl, hi, rfl, hit, F', N', off', hm, hJ⟩
    by_cases hlt : i < n
    · refine W.item i _ _ _ hlt hit fun v h₂ tk₂ hPv hst₂ hk₂ => ?_
      obtain ⟨t, rfl⟩ := hPv
      have F₂ : Fr h₀ env.locals h₂ m₁ := fr_but F' hk₂ hIL hI₀
      obtain ⟨oI, eI, backI⟩ : ∃ oI, h₂.get? I = some oI ∧ ∀ h' : Heap, h'.get? I = some oI → IsRangeIter h' I (a + ((i + 1 : Nat) : Int) * 1) ((n : Int) - ((i + 1 : Nat) : Int)) 1 := ⟨_, hst₂, fun _ e => e⟩
      have N₂ : News h₀ env.locals h₂ ((I, oI) :: nw) := fun p hp => by
        rcases List.mem_cons.mp hp with rfl | hp
        · exact ⟨eI, Ne.symm hIL, hI₀⟩
        · exact (news_but N' hk₂ off') p hp
      refine wpAny_assign_Name (wpAny_storeName_local hx F₂.ns (fun h₃ hn₃ hs₃ => ?_) hp)
      replace hs₃ : Heap.SameBut env.locals h₂ h₃ := hs₃
      have F₃ : Fr h₀ env.locals h₃ (fun y => if y = x then some (.int (a + (i : Int)) t) else if List.contains st y then m₁ y else m₀ y) := by
        have e : (fun y => if y = x then some (.int (a + (i : Int)) t) else if List.contains st y then m₁ y else m₀ y) = fun y => if y = x then some (.int (a + (i : Int)) t) else m₁ y := by
          funext y
          by_cases hy : st.contains y = true
          · rw [if_pos hy]
          · rw [if_neg hy, hm y (by simpa using hy)]
        rw [e]
        exact F₂.set hn₃ hs₃
      refine wpAny_passesOwn hE (wpAny_mono (step i m₁ t nw I oI h₃ _ hlt hJ F₃ (N₂.set hs₃) off') (fun f s₃ h₃' => ?_) fun _ _ e => e)
      have fin' : (∃ h' tk' m' nw', s₃ = { s₁ with heap := h', toks := tk' } ∧ Fr h₀ env.locals h' m' ∧ News h₀ env.locals h' ((I, oI) :: nw') ∧ (∀ p ∈ nw', p.1 ≠ I) ∧ (∀ y, st.contains y = false → m' y = m₀ y) ∧ J (i + 1) nw') →
          ∃ k', k' < n + 1 - i ∧ ∃ h' tk i m₁ nw, s₃ = { s₁ with heap := h', toks := tk } ∧ i ≤ n ∧ k' = n + 1 - i ∧ IsRangeIter h' I (a + (i : Nat) * 1) ((n : Int) - (i : Nat)) 1 ∧ Fr h₀ env.locals h' m₁ ∧ News h₀ env.locals h' nw ∧ (∀ p ∈ nw, p.1 ≠ I) ∧ (∀ y, st.contains y = false → m₁ y = m₀ y) ∧ J i nw := by
        rintro ⟨h₄, tk₄, m₄, nw₄, rfl, F₄, N₄, off₄, hm₄, J₄⟩
        exact ⟨n + 1 - (i + 1), by omega, h₄, tk₄, i + 1, m₄, nw₄, rfl, hlt, rfl, backI _ (N₄ _ List.mem_cons_self).1, F₄, fun p hp => N₄ p (List.mem_cons_of_mem _ hp), off₄, hm₄, J₄⟩
      cases f with
      | ret v => exact h₃'
      | brk => exact h₃'
      | cont => exact fin' h₃'
      | next => exact fin' h₃'
    · obtain rfl : i = n := Nat.le_antisymm hi (Nat.not_lt.mp hlt)
      refine W.done _ _ _ hit fun h₂ tk₂ hk₂ => wpAny_execs_nil ?_
      exact fin m₁ nw h₂ tk₂ hJ (fr_st hm (fr_but F' hk₂ hIL hI₀)) (news_but N' hk₂ off')
  · show IsRangeIter _ I (a + ((0 : Nat) : Int) * 1) ((n : Int) - ((0 : Nat) : Int)) 1
    rw [show a + ((0 : Nat) : Int) * 1 = a by omega, show (n : Int) - ((0 : Nat) : Int) = n by omega, ← hI, ← hn]
    exact Heap.get?_push_size _ rfl
end
end Mine

set_option maxRecDepth 100000
namespace Mine
open PySem PySem.W PySem.Spec PySem.Calls PyProof.Rows PyProof.Rows.LCg

/-- the identity's data -/
def idD (i j : Nat) : Dat := if i = j then .tuple [.int 1, .int 1] else .tuple [.int 0, .int 1]
theorem idD_pair (i j : Nat) : IsPair (idD i j) := by
  unfold idD
  split
  · exact ⟨1, 1, rfl⟩
  · exact ⟨0, 1, rfl⟩
theorem f7 (y : Int) : (((y.fmod 7).toNat : Nat) : Int) = y.fmod 7 := Int.toNat_of_nonneg (fmod_lo y (by decide))
theorem k8_7 (y : Int) : (y.fmod 7).toNat < 8 := by
  have h2 := fmod_hi y (n := 7) (by decide)
  omega
theorem id_yes {i j : Nat} {ds : List Dat} (h : PrRow (idD i) j ds) (e : 0 + (i : Int) = 0 + (j : Int)) : PrRow (idD i) (j + 1) (ds ++ [Dat.tuple [.int 1, .int 1]]) :=
  row_snoc h (by unfold idD; rw [if_pos (by omega)])
theorem id_no {i j : Nat} {ds : List Dat} (h : PrRow (idD i) j ds) (e : ¬ 0 + (i : Int) = 0 + (j : Int)) : PrRow (idD i) (j + 1) (ds ++ [Dat.tuple [.int 0, .int 1]]) :=
  row_snoc h (by unfold idD; rw [if_neg (by omega)])
/-- a row of the identity, as the law writes it -/
theorem id_row {i κ : Nat} (h : i < κ) : List.replicate i (Dat.tuple [.int 0, .int 1]) ++ [Dat.tuple [.int 1, .int 1]] ++ List.replicate (κ - 1 - i) (Dat.tuple [.int 0, .int 1]) = (List.range κ).map (idD i) := by
  apply List.ext_getElem
  · simp; omega
  · intro j h1 h2
    have hj : j < κ := by simpa using h2
    rw [List.getElem_map, List.getElem_range]
    unfold idD
    by_cases e1 : j < i
    · rw [if_neg (by omega), List.getElem_append_left (by simp; omega), List.getElem_append_left (by simpa using e1), List.getElem_replicate]
    · by_cases e2 : i = j
      · subst e2
        rw [if_pos rfl, List.getElem_append_left (by simp), List.getElem_append_right (by simp)]
        simp
      · rw [if_neg e2, List.getElem_append_right (by simp; omega), List.getElem_replicate]
theorem rep_dat {tl : List (Addr × Obj)} {v : Value} {d : Dat} (h : DatIn tl v d) : ∀ n : Nat, DatAll tl (List.replicate n [v]).flatten (List.replicate n d)
  | 0 => .nil
  | n + 1 => by
    rw [List.replicate_succ, List.replicate_succ, List.flatten_cons]
    exact .cons h (rep_dat h n)

section
variable {prog : Program} {w : World} {A : Around} {E : Value → Shared → Prop} {s : Shared} {h₀ : Heap} {L : Addr} {m : Str → Option Value} {env : Env} {news : List (Addr × Obj)}
theorem src_idO {elt : Expr} {xn : Str} {scope : Scope} {cl : List (Str × Addr)} {Q : Value → Shared → Prop} {r : Addr} {b : Int} {t u v : Tok} {s₁ : Shared} {κ : Nat}
    (hh : A.handled = none) (F : Fr h₀ L s₁.heap m) (N : News h₀ L s₁.heap news) (hr : IsRange s₁.heap r 0 b 1 t u v) (hb : b = (κ : Int)) (hκ : κ < 8)
    (turn : ∀ i ys ds add t I oI C oC c oc D h tk (E' : Value → Shared → Prop), i < κ → PrTab idD κ i ds → oc.data = .cell (some (.int (0 + (i : Int)) t)) → Fr h₀ L h m → News h₀ L h ((I, oI) :: (C, oC) :: (c, oc) :: (D, lst ys) :: (news ++ add)) →
      wpAny (model prog w) A (eval elt (compEnvC scope ((xn, c) :: cl) C env)) (Made h₀ L m { s₁ with heap := h, toks := tk } ((I, oI) :: (C, oC) :: (c, oc) :: (D, lst ys) :: (news ++ add)) (fun y add2 => ∃ d, DatIn (([] ++ add) ++ add2) y d ∧ PrTab idD κ (i + 1) (ds ++ [d]))) E' { s₁ with heap := h, toks := tk })
    (fin : ∀ D ys add h tk, DatAll add ys (tabD idD κ κ) → (∀ p ∈ add, ∀ q ∈ news, p.1 ≠ q.1) → Fr h₀ L h m → News h₀ L h ((D, lst ys) :: (news ++ add)) → (∀ p ∈ news ++ add, p.1 ≠ D) → Q (.ref D) { s₁ with heap := h, toks := tk }) :
    CellSrc prog w A h₀ L m env elt xn scope cl Q (.ref r) s₁ := by
  subst hb
  have e : ((κ : Int) - 0).toNat = κ := by omega
  exact src_cell (n := κ) (PrTab idD κ) [] hh F N hr (range_small (by omega) (by omega)) (by rw [rangeSize_nat, e]) (by rw [sizeLine_eq]; omega) (tab_nil _ _)
    (fun i ys ds add t I oI C oC c oc D h tk E' hi _ hp _ hc F' N' => turn i ys ds add t I oI C oC c oc D h tk E' hi hp hc F' N')
    fun D ys ds add h tk _ hp hD hO F' N' o' => fin D ys add h tk (by rw [PrTab] at hp; rw [hp, List.nil_append] at hD; exact hD) hO F' N' (off1_all o')
theorem src_idI {elt : Expr} {xn : Str} {scope : Scope} {js : Str} {c : Addr} {oc : Obj} {tj : Tok} {i : Nat} {Fin : Shared → List Value → List (Addr × Obj) → Prop} {r : Addr} {b : Int} {t u v : Tok} {s₁ : Shared} {κ : Nat}
    (_hc : (c, oc) ∈ news) (_hcd : oc.data = .cell (some (.int (0 + (i : Int)) tj))) (hh : A.handled = none) (F : Fr h₀ L s₁.heap m) (N : News h₀ L s₁.heap news) (hr : IsRange s₁.heap r 0 b 1 t u v) (hb : b = (κ : Int)) (hκ : κ < 8)
    (turn : ∀ j ys ds add t I oI C oC D m₂ h tk (E' : Value → Shared → Prop), j < κ → PrRow (idD i) j ds → NsObj oC m₂ → m₂ xn = some (.int (0 + (j : Int)) t) → Fr h₀ L h m → News h₀ L h ((I, oI) :: (C, oC) :: (D, lst ys) :: (news ++ add)) →
      wpAny (model prog w) A (eval elt (compEnvC scope [(js, c)] C env)) (Made h₀ L m { s₁ with heap := h, toks := tk } ((I, oI) :: (C, oC) :: (D, lst ys) :: (news ++ add)) (fun y add2 => ∃ d, DatIn (([] ++ add) ++ add2) y d ∧ PrRow (idD i) (j + 1) (ds ++ [d]))) E' { s₁ with heap := h, toks := tk })
    (fin : ∀ g' ys add, DatAll ([] ++ add) ys ((List.range κ).map (idD i)) → (∀ p ∈ add, ∀ q ∈ news, p.1 ≠ q.1) → Fin { s₁ with heap := g' } ys (news ++ add)) :
    CompSrc prog w A h₀ L m env elt xn scope [(js, c)] Fin (.ref r) s₁ := by
  subst hb
  have e : ((κ : Int) - 0).toNat = κ := by omega
  exact src_range (n := κ) (PrRow (idD i)) [] hh F N hr (range_small (by omega) (by omega)) (by rw [rangeSize_nat, e]) (by rw [sizeLine_eq]; omega) rfl
    (fun j ys ds add t I oI C oC D m₂ h tk E' hj _ hp _ hC hx F' N' => turn j ys ds add t I oI C oC D m₂ h tk E' hj hp hC hx F' N')
    fun g' ys ds add _ hp hD hO => fin g' ys add (by rw [PrRow] at hp; rw [hp] at hD; exact hD) hO

/-- what the loop that writes `want` keeps -/
def WantJ (Dw : Addr) (base : List (Addr × Obj)) (κ i : Nat) (nw : List (Addr × Obj)) : Prop :=
  ∃ vs k add, nw = (Dw, listOf (List.toArray vs) k) :: (base ++ add) ∧ DatAll add vs (tabD idD i κ) ∧ (∀ p ∈ base ++ add, p.1 ≠ Dw)

theorem loop_want {x : Str} {body : List Stmt} {Q : Flow → Shared → Prop} {r Dw Dg : Addr} {b : Int} {t u v : Tok} {s₁ : Shared} {m₀ : Str → Option Value} {κ kw kg : Nat} {ys : List Value} {add0 : List (Addr × Obj)}
    (hG : DatAll add0 ys (tabD idD κ κ)) (hg : (Dg, listOf ys.toArray kg) ∈ news) (hs0 : ∀ p ∈ add0, p ∈ news) (hw : (Dw, listOf (List.toArray ([] : List Value)) kw) ∈ news) (ho : ∀ p ∈ (Dg, listOf ys.toArray kg) :: add0, p.1 ≠ Dw)
    (hh : A.handled = none) (F : Fr h₀ env.locals s₁.heap m₀) (N : News h₀ env.locals s₁.heap news) (hr : IsRange s₁.heap r 0 b 1 t u v) (hb : b = (κ : Int)) (hκ : κ < 8)
    (turn : ∀ (i : Nat) (u : Str → Option Value) (t : Tok) vs k add I oI h tk, i < κ → DatAll add vs (tabD idD i κ) → Fr h₀ env.locals h (fun y => if y = x then some (.int (0 + (i : Int)) t) else if List.contains [x] y then u y else m₀ y) → News h₀ env.locals h ((I, oI) :: (Dw, listOf (List.toArray vs) k) :: (Dg, listOf ys.toArray kg) :: (add0 ++ add)) → (@Ne Nat Dw I) → (∀ p ∈ (Dg, listOf ys.toArray kg) :: (add0 ++ add), p.1 ≠ I ∧ p.1 ≠ Dw) →
      wpAny (model prog w) A (execs body env) (TurnG h₀ env.locals I oI [x] m₀ s₁ (WantJ Dw ((Dg, listOf ys.toArray kg) :: add0) κ (i + 1)) Q) E { s₁ with heap := h, toks := tk })
    (fin : ∀ (u : Str → Option Value) vs k add h tk, DatAll add vs (tabD idD κ κ) → Fr h₀ env.locals h (fun y => if List.contains [x] y then u y else m₀ y) → News h₀ env.locals h ((Dw, listOf (List.toArray vs) k) :: (Dg, listOf ys.toArray kg) :: (add0 ++ add)) → Q .next { s₁ with heap := h, toks := tk }) :
    ForRangeSrc prog w A h₀ env x body Q E (.ref r) s₁ := by
  have _ := hG
  subst hb
  have e : ((κ : Int) - 0).toNat = κ := by omega
  refine ⟨r, 0, κ, t, u, v, κ, (Dw, listOf (List.toArray []) kw) :: ((Dg, listOf ys.toArray kg) :: add0), m₀, [x], WantJ Dw ((Dg, listOf ys.toArray kg) :: add0) κ, rfl, hh, F, ?_, hr, range_small (by omega) (by omega), (by rw [rangeSize_nat, e]), by simp, ?_, ?_, ?_⟩
  · intro p hp
    rcases List.mem_cons.mp hp with rfl | hp
    · exact N _ hw
    · rcases List.mem_cons.mp hp with rfl | hp
      · exact N _ hg
      · exact N _ (hs0 p hp)
  · exact ⟨[], kw, [], by rw [List.append_nil], .nil, by rw [List.append_nil]; exact ho⟩
  · rintro i u t nw I oI h tk hi ⟨vs, k, add, rfl, hD, ho'⟩ F' N' off'
    exact turn i u t vs k add I oI h tk hi hD F' N' (off' _ List.mem_cons_self) fun p hp => ⟨off' p (List.mem_cons_of_mem _ hp), ho' p hp⟩
  · rintro u nw h tk ⟨vs, k, add, rfl, hD, ho'⟩ F' N'
    exact fin u vs k add h tk hD F' N'

/-- the tuple of two ints -/
abbrev tup2 (a b : Int) (ta tb : Tok) (n : Nat) : Obj := { cls := .type "tuple", data := .seq #[.int a ta, .int b tb] n }
theorem append_want {Q : Value → Shared → Prop} {I Dw Dl T0 T1 T2 : Addr} {oI : Obj} {vs : List Value} {k κ i n0 n1 n2 nz : Nat} {a0 b0 a1 b1 a2 b2 : Tok} {base add : List (Addr × Obj)} {x y : Int}
    (hD : DatAll add vs (tabD idD i κ)) (hi : i < κ) (hκ : κ < 8) (F : Fr h₀ L s.heap m) (N : News h₀ L s.heap news) (hI : (I, oI) ∈ news) (hw : (Dw, listOf vs.toArray k) ∈ news) (hb : ∀ p ∈ base ++ add, p ∈ news) (hIw : @Ne Nat Dw I) (ho : ∀ p ∈ base ++ add, p.1 ≠ I ∧ p.1 ≠ Dw)
    (h0 : (T0, tup2 0 1 a0 b0 n0) ∈ news) (h1 : (T1, tup2 1 1 a1 b1 n1) ∈ news) (h2 : (T2, tup2 0 1 a2 b2 n2) ∈ news) (hl : (Dl, listOf (((List.replicate x.toNat [Value.ref T0]).flatten ++ [Value.ref T1]) ++ (List.replicate y.toNat [Value.ref T2]).flatten).toArray nz) ∈ news)
    (hx : x.toNat = i) (hy : y.toNat = κ - 1 - i)
    (e0 : T0 ≠ I ∧ T0 ≠ Dw) (e1 : T1 ≠ I ∧ T1 ≠ Dw) (e2 : T2 ≠ I ∧ T2 ≠ Dw) (el : Dl ≠ I ∧ Dl ≠ Dw)
    (h : ∀ h' all, Fr h₀ L h' m → News h₀ L h' ((I, oI) :: all) → (∀ p ∈ all, p.1 ≠ I) → WantJ Dw base κ (i + 1) all → Q .none { s with heap := h' }) :
    wpAny (model prog w) A (call (.builtin "list.append") [.ref Dw, .ref Dl]) Q E s := by
  rw [hx, hy] at hl
  generalize hA : ([(T0, tup2 0 1 a0 b0 n0), (T1, tup2 1 1 a1 b1 n1), (T2, tup2 0 1 a2 b2 n2), (Dl, listOf (((List.replicate i [Value.ref T0]).flatten ++ [Value.ref T1]) ++ (List.replicate (κ - 1 - i) [Value.ref T2]).flatten).toArray nz)] : List (Addr × Obj)) = new
  have new4 : ∀ p ∈ new, p ∈ news ∧ p.1 ≠ I ∧ p.1 ≠ Dw := by
    rw [← hA]
    intro p hp
    rcases List.mem_cons.mp hp with rfl | hp
    · exact ⟨h0, e0⟩
    · rcases List.mem_cons.mp hp with rfl | hp
      · exact ⟨h1, e1⟩
      · rcases List.mem_cons.mp hp with rfl | hp
        · exact ⟨h2, e2⟩
        · rw [List.mem_singleton.mp hp]; exact ⟨hl, el⟩
  have all4 : ∀ p ∈ base ++ (add ++ new), p ∈ news ∧ p.1 ≠ I ∧ p.1 ≠ Dw := by
    intro p hp
    rw [← List.append_assoc] at hp
    rcases List.mem_append.mp hp with hp | hp
    · exact ⟨hb p hp, ho p hp⟩
    · exact new4 p hp
  have N₁ : News h₀ L s.heap ((Dw, listOf vs.toArray k) :: (I, oI) :: (base ++ (add ++ new))) := by
    intro p hp
    rcases List.mem_cons.mp hp with rfl | hp
    · exact N _ hw
    · rcases List.mem_cons.mp hp with rfl | hp
      · exact N _ hI
      · exact N _ (all4 p hp).1
  refine append_K (its := vs.toArray) F N₁ (Upd.head fun p hp => ?_) (fun h' F' N' => ?_) ?_
  · rcases List.mem_cons.mp hp with rfl | hp
    · exact Ne.symm hIw
    · exact (all4 p hp).2.2
  · refine h h' ((Dw, listOf (vs ++ [Value.ref Dl]).toArray (k + 1)) :: (base ++ (add ++ new))) F' (fun p hp => ?_) (fun p hp => ?_) ⟨_, _, add ++ new, rfl, ?_, fun p hp => (all4 p hp).2.2⟩
    · rw [List.push_toArray] at N'
      rcases List.mem_cons.mp hp with rfl | hp
      · exact N' _ (List.mem_cons_of_mem _ List.mem_cons_self)
      · rcases List.mem_cons.mp hp with rfl | hp
        · exact N' _ List.mem_cons_self
        · exact N' _ (List.mem_cons_of_mem _ (List.mem_cons_of_mem _ hp))
    · rcases List.mem_cons.mp hp with rfl | hp
      · exact hIw
      · exact (all4 p hp).2.1
    · have e : tabD idD (i + 1) κ = tabD idD i κ ++ [Dat.list ((List.range κ).map (idD i))] := by
        unfold tabD; rw [List.range_succ, List.map_append]; rfl
      rw [e]
      refine (hD.mono fun p hp => List.mem_append_left _ hp).append (.one (DatIn.list (vs := ((List.replicate i [Value.ref T0]).flatten ++ [Value.ref T1]) ++ (List.replicate (κ - 1 - i) [Value.ref T2]).flatten) (n := nz) (List.mem_append_right _ (by rw [← hA]; exact .tail _ (.tail _ (.tail _ (.head _))))) ?_))
      rw [← id_row hi]
      refine DatAll.append (DatAll.append (rep_dat ?_ _) (.one ?_)) (rep_dat ?_ _)
      · exact DatIn.tuple (vs := [.int 0 a0, .int 1 b0]) (n := n0) (List.mem_append_right _ (by rw [← hA]; exact .head _)) (.cons (.int _ _) (.cons (.int _ _) .nil))
      · exact DatIn.tuple (vs := [.int 1 a1, .int 1 b1]) (n := n1) (List.mem_append_right _ (by rw [← hA]; exact .tail _ (.head _))) (.cons (.int _ _) (.cons (.int _ _) .nil))
      · exact DatIn.tuple (vs := [.int 0 a2, .int 1 b2]) (n := n2) (List.mem_append_right _ (by rw [← hA]; exact .tail _ (.tail _ (.head _)))) (.cons (.int _ _) (.cons (.int _ _) .nil))
  · rw [List.size_toArray, hD.length, tab_length, sizeLine_eq]
    omega

theorem turn_want {I : Addr} {oI : Obj} {st : List Str} {m₀ m' : Str → Option Value} {s₁ : Shared} {J : List (Addr × Obj) → Prop} {Q : Flow → Shared → Prop} {h' : Heap} {tk : Nat} {all : List (Addr × Obj)}
    (hJ : J all) (F : Fr h₀ L h' m') (N : News h₀ L h' ((I, oI) :: all)) (o : ∀ p ∈ all, p.1 ≠ I) (hm : ∀ y, st.contains y = false → m' y = m₀ y) :
    TurnG h₀ L I oI st m₀ s₁ J Q .next { s₁ with heap := h', toks := tk } := ⟨h', tk, m', all, rfl, F, N, o, hm, hJ⟩
/-- a turn that leaves the ledger as it was -/
theorem turn_same {I : Addr} {oI : Obj} {st : List Str} {m₀ m' : Str → Option Value} {s₁ : Shared} {K : Prop} {Q : Flow → Shared → Prop} {h' : Heap} {tk : Nat} {all nw : List (Addr × Obj)}
    (F : Fr h₀ L h' m') (N : News h₀ L h' all) (hs : ∀ p ∈ (I, oI) :: nw, p ∈ all) (o : ∀ p ∈ nw, p.1 ≠ I) (hm : ∀ y, st.contains y = false → m' y = m₀ y) (hK : K) :
    TurnG h₀ L I oI st m₀ s₁ (fun nw' => nw' = nw ∧ K) Q .next { s₁ with heap := h', toks := tk } := ⟨h', tk, m', nw, rfl, F, fun p hp => N p (hs p hp), o, hm, rfl, hK⟩

theorem loop_lines {target : Expr} {body : List Stmt} {Q : Flow → Shared → Prop} {Dg : Addr} {s₁ : Shared} {m₀ : Str → Option Value} {κ kg : Nat} {ys : List Value} {add0 : List (Addr × Obj)} {f : Nat → Nat → Dat} (st : List Str)
    (hG : DatAll add0 ys (tabD f κ κ)) (hg : (Dg, listOf ys.toArray kg) ∈ news) (hs0 : ∀ p ∈ add0, p ∈ news) (hh : A.handled = none) (F : Fr h₀ env.locals s₁.heap m₀) (N : News h₀ env.locals s₁.heap news)
    (turn : ∀ (i : Nat) (a : Addr) (es : List Value) (k : Nat) (u : Str → Option Value) I oI h tk, (a, listOf (List.toArray es) k) ∈ news → DatAll add0 es ((List.range κ).map (f i)) → Fr h₀ env.locals h (fun y => if List.contains st y then u y else m₀ y) → News h₀ env.locals h ((I, oI) :: news) → (∀ p ∈ news, p.1 ≠ I) →
      wpAny (model prog w) A (assign target env (.ref a)) (fun _ s₂ => wpAny (model prog w) A (execs body env) (TurnG h₀ env.locals I oI st m₀ s₁ (fun nw => nw = news ∧ True) Q) E s₂) E { s₁ with heap := h, toks := tk })
    (fin : ∀ (u : Str → Option Value) h tk, Fr h₀ env.locals h (fun y => if List.contains st y then u y else m₀ y) → News h₀ env.locals h news → Q .next { s₁ with heap := h, toks := tk }) :
    ForListSrc prog w A h₀ env target body Q E (.ref Dg) s₁ := by
  refine ⟨Dg, ys, kg, news, m₀, st, fun _ nw => nw = news ∧ True, rfl, hh, F, N, ?_, ⟨rfl, trivial⟩, ?_, ?_⟩
  · rintro _ nw ⟨rfl, _⟩; exact hg
  · rintro i v u nw I oI h tk hv ⟨rfl, _⟩ F' N' off'
    rcases datAll_get? hG i with ⟨v', d, h1, h2, h3⟩ | ⟨h1, _⟩
    · rw [hv] at h1
      cases h1
      obtain ⟨_, rfl⟩ := tab_get h2
      obtain ⟨a, es, n, rfl, hmem, hes⟩ := datIn_list h3
      exact turn i a es n u I oI h tk (hs0 _ hmem) hes F' N' off'
    · rw [hv] at h1; cases h1
  · rintro u nw h tk ⟨rfl, _⟩ F' N'
    exact fin u h tk F' N'

theorem loop_pairs {target : Expr} {body : List Stmt} {Q : Flow → Shared → Prop} {Dg : Addr} {s₁ : Shared} {m₀ : Str → Option Value} {κ kg : Nat} {es : List Value} {add0 : List (Addr × Obj)} {g : Nat → Dat} (st : List Str)
    (hG : DatAll add0 es ((List.range κ).map g)) (hp : ∀ j, IsPair (g j)) (hg : (Dg, listOf es.toArray kg) ∈ news) (hs0 : ∀ p ∈ add0, p ∈ news) (hh : A.handled = none) (F : Fr h₀ env.locals s₁.heap m₀) (N : News h₀ env.locals s₁.heap news)
    (turn : ∀ (T : Addr) (a b : Int) (ta tb : Tok) (u : Str → Option Value) I oI h tk, IsTup h T #[.int a ta, .int b tb] → Fr h₀ env.locals h (fun y => if List.contains st y then u y else m₀ y) → News h₀ env.locals h ((I, oI) :: news) → (∀ p ∈ news, p.1 ≠ I) →
      wpAny (model prog w) A (assign target env (.ref T)) (fun _ s₂ => wpAny (model prog w) A (execs body env) (TurnG h₀ env.locals I oI st m₀ s₁ (fun nw => nw = news ∧ True) Q) E s₂) E { s₁ with heap := h, toks := tk })
    (fin : ∀ (u : Str → Option Value) h tk, Fr h₀ env.locals h (fun y => if List.contains st y then u y else m₀ y) → News h₀ env.locals h news → Q .next { s₁ with heap := h, toks := tk }) :
    ForListSrc prog w A h₀ env target body Q E (.ref Dg) s₁ := by
  refine ⟨Dg, es, kg, news, m₀, st, fun _ nw => nw = news ∧ True, rfl, hh, F, N, ?_, ⟨rfl, trivial⟩, ?_, ?_⟩
  · rintro _ nw ⟨rfl, _⟩; exact hg
  · rintro i v u nw I oI h tk hv ⟨rfl, _⟩ F' N' off'
    rcases datAll_get? hG i with ⟨v', d, h1, h2, h3⟩ | ⟨h1, _⟩
    · rw [hv] at h1
      cases h1
      rw [List.getElem?_map] at h2
      obtain ⟨j, _, rfl⟩ := Option.map_eq_some_iff.mp h2
      obtain ⟨a, b, e⟩ := hp j
      rw [e] at h3
      cases h3 with
      | tuple hm hd =>
        cases hd with
        | cons ha hr =>
          cases hr with
          | cons hb hn =>
            cases hn
            cases ha
            cases hb
            exact turn _ a b _ _ u I oI h tk (News.isTup N' (List.mem_cons_of_mem _ (hs0 _ hm))) F' N' off'
    · rw [hv] at h1; cases h1
  · rintro u nw h tk ⟨rfl, _⟩ F' N'
    exact fin u h tk F' N'
variable {Q : Value → Shared → Prop} {a b l T0 T1 T2 : Addr}
theorem allLt_off {h : Heap} {D : Addr} {o : Obj} {l base : List (Addr × Obj)} (_N : News h₀ L h ((D, o) :: l)) (hl : AllLt D l) (hs : ∀ p ∈ base, p ∈ l) : ∀ p ∈ base, p.1 ≠ D := fun p hp => Nat.ne_of_lt (allLt_mem hl p (hs p hp))
theorem mul_i {i : Nat} {y : Int} {u : Tok} (Fm : Fr h₀ L s.heap m) (N : News h₀ L s.heap news) (hl : s.heap.IsList l [Value.ref T0].toArray) (hi : i < (y.fmod 7).toNat)
    (h : ∀ D h', Fr h₀ L h' m → News h₀ L h' ((D, listOf (List.replicate (0 + (i : Int)).toNat [Value.ref T0]).flatten.toArray 0) :: news) → (∀ p ∈ news, p.1 < D) → Q (.ref D) { s with heap := h' }) : wpAny (model prog w) A (binaryOp .Mult (.ref l) (.int (0 + (i : Int)) u)) Q E s := by
  have h2 := k8_7 y
  exact KMa.mul Fm N hl (by omega) (by omega) (by simp only [List.length_singleton]; omega) rfl h
theorem mul_r {i : Nat} {y : Int} {u : Tok} (Fm : Fr h₀ L s.heap m) (N : News h₀ L s.heap news) (hl : s.heap.IsList l [Value.ref T0].toArray) (hi : i < (y.fmod 7).toNat)
    (h : ∀ D h', Fr h₀ L h' m → News h₀ L h' ((D, listOf (List.replicate (y.fmod 7 - 1 - (0 + (i : Int))).toNat [Value.ref T0]).flatten.toArray 0) :: news) → (∀ p ∈ news, p.1 < D) → Q (.ref D) { s with heap := h' }) : wpAny (model prog w) A (binaryOp .Mult (.ref l) (.int (y.fmod 7 - 1 - (0 + (i : Int))) u)) Q E s := by
  have h2 := k8_7 y
  have h1 := fmod_lo y (n := 7) (by decide)
  exact KMa.mul Fm N hl (by omega) (by omega) (by simp only [List.length_singleton]; omega) rfl h
theorem rep_len (v : Value) (n : Nat) : (List.replicate n [v]).flatten.length = n := by simp
theorem add_one {i : Nat} {y : Int} (Fm : Fr h₀ L s.heap m) (N : News h₀ L s.heap news) (ha : s.heap.IsList a (List.replicate (0 + (i : Int)).toNat [Value.ref T0]).flatten.toArray) (hb : s.heap.IsList b [Value.ref T1].toArray) (hi : i < (y.fmod 7).toNat)
    (h : ∀ D h', Fr h₀ L h' m → News h₀ L h' ((D, listOf ((List.replicate (0 + (i : Int)).toNat [Value.ref T0]).flatten ++ [Value.ref T1]).toArray 0) :: news) → (∀ p ∈ news, p.1 < D) → Q (.ref D) { s with heap := h' }) : wpAny (model prog w) A (binaryOp .Add (.ref a) (.ref b)) Q E s := by
  have h2 := k8_7 y
  have e := rep_len (Value.ref T0) (0 + (i : Int)).toNat
  exact kmk_add_lit Fm N ha hb rfl h (by rw [sizeLine_eq]; simp only [List.length_singleton]; omega)
theorem add_two {i : Nat} {y : Int} (Fm : Fr h₀ L s.heap m) (N : News h₀ L s.heap news) (ha : s.heap.IsList a ((List.replicate (0 + (i : Int)).toNat [Value.ref T0]).flatten ++ [Value.ref T1]).toArray) (hb : s.heap.IsList b (List.replicate (y.fmod 7 - 1 - (0 + (i : Int))).toNat [Value.ref T2]).flatten.toArray) (hi : i < (y.fmod 7).toNat)
    (h : ∀ D h', Fr h₀ L h' m → News h₀ L h' ((D, listOf (((List.replicate (0 + (i : Int)).toNat [Value.ref T0]).flatten ++ [Value.ref T1]) ++ (List.replicate (y.fmod 7 - 1 - (0 + (i : Int))).toNat [Value.ref T2]).flatten).toArray 0) :: news) → (∀ p ∈ news, p.1 < D) → Q (.ref D) { s with heap := h' }) : wpAny (model prog w) A (binaryOp .Add (.ref a) (.ref b)) Q E s := by
  have h2 := k8_7 y
  have h1 := fmod_lo y (n := 7) (by decide)
  have e := rep_len (Value.ref T0) (0 + (i : Int)).toNat
  have e' := rep_len (Value.ref T2) (y.fmod 7 - 1 - (0 + (i : Int))).toNat
  exact kmk_add_lit Fm N ha hb rfl h (by rw [sizeLine_eq]; simp only [List.length_append, List.length_singleton]; omega)
theorem toNat_i (i : Nat) : (0 + (i : Int)).toNat = i := by omega
theorem toNat_r {i : Nat} {y : Int} (hi : i < (y.fmod 7).toNat) : (y.fmod 7 - 1 - (0 + (i : Int))).toNat = (y.fmod 7).toNat - 1 - i := by
  have h1 := fmod_lo y (n := 7) (by decide)
  omega
theorem append_want' {I Dw Dl Dg T0 T1 T2 : Addr} {oI og : Obj} {vs : List Value} {k κ i n0 n1 n2 nz : Nat} {a0 b0 a1 b1 a2 b2 : Tok} {add0 add : List (Addr × Obj)} {x y : Int}
    (hIw : @Ne Nat Dw I) (ho : ∀ p ∈ (Dg, og) :: (add0 ++ add), p.1 ≠ I ∧ p.1 ≠ Dw) (hD : DatAll add vs (tabD idD i κ)) (hi : i < κ) (hκ : κ < 8) (F : Fr h₀ L s.heap m) (N : News h₀ L s.heap news) (hI : (I, oI) ∈ news) (hw : (Dw, listOf vs.toArray k) ∈ news) (hb : ∀ p ∈ (Dg, og) :: (add0 ++ add), p ∈ news)
    (hl : (Dl, listOf (((List.replicate x.toNat [Value.ref T0]).flatten ++ [Value.ref T1]) ++ (List.replicate y.toNat [Value.ref T2]).flatten).toArray nz) ∈ news) (h0 : (T0, tup2 0 1 a0 b0 n0) ∈ news) (h1 : (T1, tup2 1 1 a1 b1 n1) ∈ news) (h2 : (T2, tup2 0 1 a2 b2 n2) ∈ news)
    (hx : x.toNat = i) (hy : y.toNat = κ - 1 - i)
    (e0 : (@Ne Nat T0 I) ∧ (@Ne Nat T0 Dw)) (e1 : (@Ne Nat T1 I) ∧ (@Ne Nat T1 Dw)) (e2 : (@Ne Nat T2 I) ∧ (@Ne Nat T2 Dw)) (el : (@Ne Nat Dl I) ∧ (@Ne Nat Dl Dw))
    (h : ∀ h' all, Fr h₀ L h' m → News h₀ L h' ((I, oI) :: all) → (∀ p ∈ all, p.1 ≠ I) → WantJ Dw ((Dg, og) :: add0) κ (i + 1) all → Q .none { s with heap := h' }) :
    wpAny (model prog w) A (call (.builtin "list.append") [.ref Dw, .ref Dl]) Q E s :=
  append_want (base := (Dg, og) :: add0) hD hi hκ F N hI hw hb hIw ho h0 h1 h2 hl hx hy e0 e1 e2 el h
end
end Mine

open PySem PySem.W PyProof.Rows
set_option Elab.async false
local macro_rules | `(tactic| walk_at "eval ListComp") => `(tactic| (k_here; (with_reducible show wpAny _ _ (eval (Expr.ListComp (Expr.ListComp _ _ _ _) _ _ _) _) _ _ _); k_dflt (refine Mine.ListComp_cell' (by k_asm) (by with_unfolding_all rfl) (by rfl) (by decide) (by rfl) (by intro _; rfl) (by intro _; rfl) ?_)))
local macro_rules | `(tactic| walk_at "eval ListComp") => `(tactic| (k_here; (with_reducible show wpAny _ _ (eval (Expr.ListComp (Expr.IfExp _ _ _ _) _ _ _) _) _ _ _); k_dflt (refine LCg.ListComp_U (F₀ := by k_asm) (by with_unfolding_all rfl) (by decide) (by rfl) (by decide) (by rfl) ?_)))
local macro_rules | `(tactic| walk_at "CellSrc") => `(tactic| (k_here; (k_dflt (refine' Mine.src_idO (by rfl) (by k_asm) (by k_asm) (by assumption) ?kb ?k8 ?_ ?_; (case kb => exact (Mine.f7 _).symm); (case k8 => exact Mine.k8_7 _))); (intro i' ys' ds' add' t' I' oI' C' oC' c' oc' D' h' tk' E' hi' hp' hc' F' N'; (try simp only [List.cons_append, List.nil_append] at N')); rotate_left; (intro D' ys' add' h' tk' hD' hO' F' N' o2'; (have hO2' := Mine.own_of hO'); (try simp only [List.map_cons, List.map_nil] at hO2'); (try simp only [List.cons_append, List.nil_append] at N' o2'); (try dsimp only)); rotate_right))
local macro_rules | `(tactic| walk_at "CompSrc") => `(tactic| (k_here; (with_reducible show LCg.CompSrc _ _ _ _ _ _ _ _ (Str.ofString "j") _ _ _ _ _); (k_dflt (refine' Mine.src_idI ?kc ?kd (by rfl) (by k_asm) (by k_asm) (by assumption) ?kb ?k8 ?_ ?_; (case kc => k_mem); (case kd => k_asm); (case kb => exact (Mine.f7 _).symm); (case k8 => exact Mine.k8_7 _))); (intro i' ys' ds' add' t' I' oI' C' oC' D' m' h' tk' E' hi' hp' hC' hx' F' N'; (try simp only [List.cons_append, List.nil_append] at N')); rotate_left; (intro g' ys' add' hD' hO'; (have hO2' := Mine.own_of hO'); (try simp only [List.map_cons, List.map_nil] at hO2')); rotate_right))
local macro_rules | `(tactic| walk_at "FinE") => `(tactic| ((unfold LCg.FinE); intro D' h' tk' F' N' o1'; (have o2' := Mine.off1_all o1'); (try simp only [List.cons_append, List.nil_append] at N' o1' o2'); (try simp only [LCg.Off1, and_true] at o1'); (try dsimp only)))
local macro_rules | `(tactic| walk_at "Made") => `(tactic| ((try k_unfold); (try dsimp only); (with_reducible rename _ ∧ _ => hlt'); (k_dflt (refine' Mine.made_pair (tl := []) ?mF ?mN ?mH ?mS ?mP); (case mF => k_asm); (case mN => k_asm); (case mH => k_dflt (exact hlt')); (case mS => kcf_all); (case mP => first | exact Mine.id_yes (by assumption) (by omega) | exact Mine.id_no (by assumption) (by omega)))))
local macro_rules | `(tactic| walk_at "Made") => `(tactic| ((try k_unfold); (try dsimp only); k_dflt (refine' Mine.made_inner2 (tl := []) ?mF ?mN ?mO ?m3 ?mZ ?mP); (case mF => k_asm); (case mN => k_asm); (case mO => assumption); (case m3 => assumption); (case mZ => assumption); (case mP => exact Mine.tab_snoc (by assumption) rfl)))
local macro_rules | `(tactic| walk_at "execs cons Assign cons") => `(tactic| (k_here; (with_reducible show wpAny _ _ (execs (Stmt.Assign _ (Expr.List [] _) _ :: Stmt.For _ _ _ _ _ :: _) _) _ _ _); (with_reducible refine wpAny_execs_cons ?_); (try dsimp only)))
local macro_rules | `(tactic| walk_at "exec For Name Call cons nil") => `(tactic| (k_here; (k_dflt (refine Mine.For_range (by k_asm) (by rfl) (by rfl) ?_))))
local macro_rules | `(tactic| walk_at "ForRangeSrc") => `(tactic| (k_here; (with_reducible rename _ ∧ _ => hlt'); (k_dflt (refine' Mine.loop_want ?kG ?kg ?ks ?kw ?ko (by rfl) (by k_asm) (by k_asm) (by assumption) ?kb ?k8 ?_ ?_; (case kG => assumption); (case kg => k_mem); (case ks => kcf_all); (case kw => k_mem);(case ko => (refine' Mine.allLt_off ?na ?nb ?nc; (case na => k_asm); (case nb => exact hlt'); (case nc => kcf_all))); (case kb => exact (Mine.f7 _).symm); (case k8 => exact Mine.k8_7 _))); (intro i' u' t' vs' k' add' I' oI' h' tk' hi' hD' F' N' hw' ho'); rotate_left; (intro u' vs' k' add' h' tk' hD' F' N'); rotate_right))
local macro_rules | `(tactic| walk_at "binaryOp Mult ref int") => `(tactic| (k_here; (with_reducible show wpAny _ _ (binaryOp Operator.Mult (Value.ref _) (Value.int (HAdd.hAdd _ _) _)) _ _ _); (k_dflt (refine' Mine.mul_i ?F ?N ?l ?i ?_; (case F => k_asm); (case N => k_asm); (case l => is_list); (case i => assumption))); intro D' h' F' N' l1'; (try k_lt l1')))
local macro_rules | `(tactic| walk_at "binaryOp Mult ref int") => `(tactic| (k_here; (with_reducible show wpAny _ _ (binaryOp Operator.Mult (Value.ref _) (Value.int (HSub.hSub _ _) _)) _ _ _); (k_dflt (refine' Mine.mul_r ?F ?N ?l ?i ?_; (case F => k_asm); (case N => k_asm); (case l => is_list); (case i => assumption))); intro D' h' F' N' l1'; (try k_lt l1')))
local macro_rules | `(tactic| walk_at "binaryOp Add ref ref") => `(tactic| (k_here; (with_reducible show wpAny _ _ (binaryOp _ (Value.ref _) (Value.ref _)) _ _ _); (k_dflt (refine' Mine.add_one ?F ?N ?l ?j ?i ?_; (case F => k_asm); (case N => k_asm); (case l => exact News.isList (by k_asm) (by k_mem)); (case j => exact News.isList (by k_asm) (by k_mem)); (case i => assumption))); intro D' h' F' N' l1'; (try k_lt l1')))
local macro_rules | `(tactic| walk_at "binaryOp Add ref ref") => `(tactic| (k_here; (with_reducible show wpAny _ _ (binaryOp _ (Value.ref _) (Value.ref _)) _ _ _); (k_dflt (refine' Mine.add_two ?F ?N ?l ?j ?i ?_; (case F => k_asm); (case N => k_asm); (case l => exact News.isList (by k_asm) (by k_mem)); (case j => exact News.isList (by k_asm) (by k_mem)); (case i => assumption))); intro D' h' F' N' l1'; (try k_lt l1')))
local macro_rules | `(tactic| walk_at "callWith builtin:list.append cons nil") => `(tactic| (k_here; refine callWith_method1 ?_))
local macro_rules | `(tactic| walk_at "call builtin:list.append") => `(tactic| (k_here; (with_reducible show wpAny _ _ (call (Value.builtin _) [Value.ref _, Value.ref _]) _ _ _); (k_dflt (refine' Mine.append_want' ?an ?ao ?aD ?ai ?a8 ?aF ?aN ?aI ?aw ?ab ?al ?t0 ?t1 ?t2 ?ax ?ay ?e0 ?e1 ?e2 ?el ?_; (case an => assumption); (case ao => assumption); (case aD => assumption); (case ai => assumption); (case a8 => exact Mine.k8_7 _); (case aF => k_asm); (case aN => k_asm); (case aI => k_mem); (case aw => k_mem); (case ab => kcf_all); (case al => k_mem); (case t0 => k_mem); (case t1 => k_mem); (case t2 => k_mem); (case ax => exact Mine.toNat_i _); (case ay => exact Mine.toNat_r (by assumption)); (case e0 => (exact ⟨by omega, by omega⟩)); (case e1 => (exact ⟨by omega, by omega⟩)); (case e2 => (exact ⟨by omega, by omega⟩)); (case el => (exact ⟨by omega, by omega⟩)))); intro h' all' F' N' o' hJ'; (try dsimp only)))
local macro_rules | `(tactic| walk_at "TurnG") => `(tactic| ((k_dflt (refine' Mine.turn_want ?j ?F ?N ?o ?m; (case j => assumption); (case F => k_asm); (case N => k_asm); (case o => assumption); (case m => (intro y9 h9; (try dsimp only); (repeat first | (with_reducible exact rfl) | (refine Mine.skip_name ?q h9 ?_; (case q => with_unfolding_all rfl)) | (refine Mine.skip_many ?q h9 ?_; (case q => with_unfolding_all rfl)))))))))
local macro_rules | `(tactic| walk_at "compareOp NotEq ref ref") => `(tactic| (k_here; (k_dflt (refine' Mine.ne_same ?kN ?ka ?kA ?ksa ?kb ?kB ?ksb ?ko ?ku ?_; (case kN => k_asm); (case ka => k_mem); (case kA => assumption); (case kb => k_mem); (case kB => assumption); (case ksa => kcf_all); (case ksb => kcf_all); (case ko => exact Mine.tab_ok Mine.idD_pair _ _); (case ku => ke_room)))))
local macro_rules | `(tactic| walk_at "exec For Name Name cons nil") => `(tactic| (k_here; (k_dflt (refine Mine.For_list (by k_asm) (.inl ⟨_, _, rfl⟩) ?_))))
local macro_rules | `(tactic| walk_at "exec For Tuple Name cons nil") => `(tactic| (k_here; (k_dflt (refine Mine.For_list (by k_asm) (.inr ⟨_, _, _, rfl⟩) ?_))))
local macro_rules | `(tactic| walk_at "ForListSrc") => `(tactic| (k_here; (with_reducible show Mine.ForListSrc _ _ _ _ _ (Expr.Name _ _) _ _ _ _ _); (k_dflt (refine' Mine.loop_lines [Str.ofString "line", Str.ofString "upper", Str.ofString "lower"] ?kG ?kg ?ks (by rfl) (by k_asm) (by k_asm) ?_ ?_; (case kg => k_mem); (case kG => assumption); (case ks => kcf_all))); (intro i' a' es' k' u' I' oI' h' tk' hm' hE' F' N' o'); rotate_left; (intro u' h' tk' F' N'); rotate_right))
local macro_rules | `(tactic| walk_at "ForListSrc") => `(tactic| (k_here; (with_reducible show Mine.ForListSrc _ _ _ _ _ (Expr.Tuple _ _ _) _ _ _ _ _); (k_dflt (refine' Mine.loop_pairs [Str.ofString "upper", Str.ofString "lower"] ?kG (Mine.idD_pair _) ?kg ?ks (by rfl) (by k_asm) (by k_asm) ?_ ?_; (case kG => assumption); (case kg => first | k_mem | kcf_m); (case ks => kcf_all))); (intro T' a' b' ta' tb' u' I' oI' h' tk' hT' F' N' o'); rotate_left; (intro u' h' tk' F' N'); rotate_right))
local macro_rules | `(tactic| walk_at "TurnG") => `(tactic| ((k_dflt (refine' Mine.turn_same ?F ?N ?s ?o ?m trivial; (case F => k_asm); (case N => k_asm); (case o => assumption); (case s => kcf_all); (case m => (intro y9 h9; (try dsimp only); (repeat first | (with_reducible exact rfl) | (refine Mine.skip_name ?q h9 ?_; (case q => with_unfolding_all rfl)) | (refine Mine.skip_many ?q h9 ?_; (case q => with_unfolding_all rfl)))))))))
set_option maxRecDepth 100000 in
set_option maxHeartbeats 8000000 in
theorem PySem.Challenge.cw_k20_0015_holds : PySem.Challenge.rw_k20_0015.Holds := by
  open_k
