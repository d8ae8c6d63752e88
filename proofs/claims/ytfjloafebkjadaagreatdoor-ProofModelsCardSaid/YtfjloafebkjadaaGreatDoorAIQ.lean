import Derived.Test.YtfjloafebkjadaaGreatDoorAITab
import Derived.KernelRfl
/- Runs of closed functions. -/
namespace Go.AI
variable {P : Program} {T : Tab}
def noOracle : Oracle := fun _ _ _ => none
theorem noOracle_ok (P : Program) (T : Tab) (w0 : World) : OracleOk P T noOracle w0 := by
  intro f x args args' h h' v γ w _ hx; cases hx
def γ0 : Emb := fun _ => none
theorem wrel0 (T : Tab) (w : World) (hg : GlobOk T w) : WRel T γ0 ⟨.leaf, 0⟩ w w where
  glob := hg
  below := ⟨rfl, rfl, rfl, Nat.le_refl _, fun _ _ => rfl⟩
  dom := by intro id x e; cases e
  obj := by intro id b s K z e; cases e
  inj := by intro id id' b s K z s' K' z' e; cases e
def isTrue : Option (AV × AH) → Bool
  | some (.bool true, _) => true
  | _ => false
theorem globOk_leaf (P : Program) (w : World) : GlobOk (mkTab P) w := by
  intro g cs h
  rw [show (mkTab P).gt = .leaf from rfl, Tree.get_leaf] at h
  cases h
theorem runs_true (hm : P.follows .mixedOrders = true) {gt : Tree (List AV)} {k : Nat} {f : FuncId} {args : List AV} {args' : List Value} (hr : isTrue (acall (mkTab P gt) noOracle k f args ⟨.leaf, 0⟩) = true) (hl : LRel γ0 args args') (w : World) (hg : GlobOk (mkTab P gt) w) :
    Calls P f ⟨args'⟩ w (fun e w' => e = .returned (.bool true) ∧ Go.RowKit.Below w.heap.size w w') := by
  unfold isTrue at hr
  split at hr
  · rename_i h' he
    refine (acall_sound (tabOk hm) (noOracle_ok _ _ w) he (wrel0 _ w hg) hl).mono fun e w' ⟨v', γ', h1, _, _, h4, h5⟩ => ?_
    cases h5
    exact ⟨h1, h4.below⟩
  · cases hr
end Go.AI
