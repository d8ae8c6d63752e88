/- The program's tables; a closed run. -/
import Derived.Test.YtfjloafebkjadaaGreatDoorAIDraw
import Derived.Eval
import Derived.KernelRfl
/- The tables of a program say what the program says. -/
namespace Go.AI
variable {P : Program}

theorem mkTT_get (t : TypeId) (i : TInfo) : ∀ (n : Nat) (T : Tree TInfo), (T.get t = some i → mkTInfo P t = some i) → (mkTT P n T).get t = some i → mkTInfo P t = some i
  | 0, _, h, hg => h hg
  | n + 1, T, h, hg => by
    refine mkTT_get t i n _ ?_ hg
    split
    · rename_i x hx
      rw [Tree.get_put]
      split
      · rename_i he; subst he; intro e; rw [hx, e]
      · exact h
    · exact h
theorem mkFT_get (f : FuncId) (x : AFunc) : ∀ (l : List Func) (n : Nat) (T : Tree AFunc), (T.get f = some x → ∃ F, P.funcs[f]? = some F ∧ mkAFunc F = some x) → (∀ i F, l[i]? = some F → P.funcs[n + i]? = some F) →
    (mkFT l n T).get f = some x → ∃ F, P.funcs[f]? = some F ∧ mkAFunc F = some x
  | [], _, _, h, _, hg => h hg
  | F :: l, n, T, h, hl, hg => by
    refine mkFT_get f x l (n + 1) _ ?_ (fun i G hi => by have := hl (i + 1) G hi; rwa [show n + 1 + i = n + (i + 1) by omega]) hg
    split
    · rename_i y hy
      rw [Tree.get_put]
      split
      · rename_i he; subst he; intro e; exact ⟨F, hl 0 F rfl, by rw [hy, e]⟩
      · exact h
    · exact h
theorem mkXT_get (f : FuncId) (x : Nat) : ∀ (l : List Func) (n : Nat) (T : Tree Nat), (T.get f = some x → ∃ F, P.funcs[f]? = some F ∧ mkExt F = some x) → (∀ i F, l[i]? = some F → P.funcs[n + i]? = some F) →
    (mkXT l n T).get f = some x → ∃ F, P.funcs[f]? = some F ∧ mkExt F = some x
  | [], _, _, h, _, hg => h hg
  | F :: l, n, T, h, hl, hg => by
    refine mkXT_get f x l (n + 1) _ ?_ (fun i G hi => by have := hl (i + 1) G hi; rwa [show n + 1 + i = n + (i + 1) by omega]) hg
    split
    · rename_i y hy
      rw [Tree.get_put]
      split
      · rename_i he; subst he; intro e; exact ⟨F, hl 0 F rfl, by rw [hy, e]⟩
      · exact h
    · exact h
theorem Tree.get_leaf {α : Type} (n : Nat) : (Tree.leaf : Tree α).get n = none := by unfold Tree.get; rfl

theorem ext_of (F : Func) (h1 : F.name = "internal/abi.NoEscape") (h2 : F.origin = "") : Extern.findNext F = none ∧ Extern.find F = some Extern.AbiNoEscape.same := by
  cases F
  simp only at h1 h2
  subst h1; subst h2
  exact ⟨by kernel_rfl, by kernel_rfl⟩
theorem tabOk (hm : P.follows .mixedOrders = true) {gt : Tree (List AV)} : TabOk P (mkTab P gt) where
  mixed := hm
  ext f c h := by
    obtain ⟨F, h1, h2⟩ := mkXT_get (P := P) f c P.funcs.toList 0 .leaf (by rw [Tree.get_leaf]; intro e; cases e) (fun i F hi => by rw [Nat.zero_add, ← Array.getElem?_toList]; exact hi) h
    unfold mkExt at h2
    split at h2
    · rename_i hc
      simp only [Bool.and_eq_true, beq_iff_eq] at hc
      obtain ⟨g1, g2⟩ := ext_of F hc.1.1 hc.1.2
      exact ⟨F, h1, by rw [hc.1.1]; decide, hc.2, g1, g2⟩
    · cases h2
  ty t i h := by
    have h := mkTT_get t i P.types.size .leaf (by rw [Tree.get_leaf]; intro e; cases e) h
    unfold mkTInfo at h
    split at h
    · rename_i info d h1 h2
      split at h
      · rename_i z hz
        split at h
        · cases h
        · rename_i hk
          cases h
          refine ⟨h2, info, z, h1, rfl, rfl, hz, rfl, rfl, fun e => hk (by rw [e]; rfl), rfl, fun e => ?_⟩
          simp only [Bool.and_eq_true, Bool.not_eq_eq_eq_not, Bool.not_true] at e
          exact e
      · cases h
    · cases h
  fn f x h := by
    obtain ⟨F, h1, h2⟩ := mkFT_get (P := P) f x P.funcs.toList 0 .leaf (by rw [Tree.get_leaf]; intro e; cases e) (fun i F hi => by rw [Nat.zero_add, ← Array.getElem?_toList]; exact hi) h
    unfold mkAFunc at h2
    split at h2
    · cases h2
    · rename_i hn
      split at h2
      · rename_i c hc
        cases h2
        exact ⟨F, h1, by simpa using hn, hc, rfl, rfl⟩
      · cases h2
end Go.AI
/- Runs of closed functions. -/
namespace Go.AI
variable {P : Program} {T : Tab}
def noOracle : Oracle := fun _ _ _ => none
theorem noOracle_ok (P : Program) (T : Tab) (w0 : World) : OracleOk P T noOracle w0 := by
  intro f x args args' h h' v γ w _ hx; cases hx
def γ0 : Emb := fun _ => none
theorem wrel0 (T : Tab) (w : World) (hg : GlobOk T w) : WRel T γ0 ⟨.leaf, 0⟩ w w where
  glob := hg
  below := ⟨rfl, rfl, rfl, Nat.le_refl _, fun _ _ => rfl⟩
  dom := by intro id x e; cases e
  obj := by intro id b s K z e; cases e
  inj := by intro id id' b s K z s' K' z' e; cases e
def isTrue : Option (AV × AH) → Bool
  | some (.bool true, _) => true
  | _ => false
theorem globOk_leaf (P : Program) (w : World) : GlobOk (mkTab P) w := by
  intro g cs h
  rw [show (mkTab P).gt = .leaf from rfl, Tree.get_leaf] at h
  cases h
theorem runs_true (hm : P.follows .mixedOrders = true) {gt : Tree (List AV)} {k : Nat} {f : FuncId} {args : List AV} {args' : List Value} (hr : isTrue (acall (mkTab P gt) noOracle k f args ⟨.leaf, 0⟩) = true) (hl : LRel γ0 args args') (w : World) (hg : GlobOk (mkTab P gt) w) :
    Calls P f ⟨args'⟩ w (fun e w' => e = .returned (.bool true) ∧ Go.RowKit.Below w.heap.size w w') := by
  unfold isTrue at hr
  split at hr
  · rename_i h' he
    refine (acall_sound (tabOk hm) (noOracle_ok _ _ w) he (wrel0 _ w hg) hl).mono fun e w' ⟨v', γ', h1, _, _, h4, h5⟩ => ?_
    cases h5
    exact ⟨h1, h4.below⟩
  · cases hr
end Go.AI
