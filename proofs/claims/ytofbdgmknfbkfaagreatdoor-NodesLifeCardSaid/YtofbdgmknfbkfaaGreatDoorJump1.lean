/- Runs that jump: what is said of code with labels. Conditions: those that each theorem names, and no others. -/
import Derived.Test.YtofbdgmknfbkfaaGreatDoorMini3
import Derived.ScopeJumps
namespace Go.Mini.Fast
open Go Go.RowKit

section
variable {P : Program}
/-- What a run of a code says of the model's, with gotos. -/
def SoundC (P : Program) (c : Code) (ts : List AV) (s : AS) (r : Res) : Prop := ∀ (B : Base) (ρ : Ren) (a : Act) (w : World), Rel P B ρ s w → TR ρ ts a →
  c.wp P (fun e a' w' => e = r.e.out ∧ ∃ ρ', TR ρ' r.ts a' ∧ Post P B ρ s w ρ' r.s w') a w
theorem SoundC.sound {c : Code} {ts : List AV} {s : AS} {r : Res} (h : SoundC P c ts s r) (hg : ∀ l, r.e ≠ .goto l) : Sound P (.code c ts s) r := ⟨hg, h⟩

theorem seq_nextC {x y : Code} {ts ts1 : List AV} {s s1 : AS} {r : Res} (hx : SoundC P x ts s ⟨.normal, ts1, s1⟩) (hy : SoundC P y ts1 s1 r) : SoundC P (.seq x y) ts s r := by
  intro B ρ a w R ht
  refine wp_seq (wp_mono (hx B ρ a w R ht) ?_)
  rintro e a1 w1 ⟨rfl, ρ1, ht1, hp1⟩
  refine wp_mono (hy B ρ1 a1 w1 hp1.rel ht1) ?_
  rintro e a2 w2 ⟨rfl, ρ2, ht2, hp2⟩
  exact ⟨rfl, ρ2, ht2, hp1.trans hp2⟩
theorem seq_stopC {x y : Code} {ts : List AV} {s : AS} {r : Res} (hx : SoundC P x ts s r) (hne : r.e ≠ .normal) : SoundC P (.seq x y) ts s r := by
  intro B ρ a w R ht
  refine wp_seq (wp_mono (hx B ρ a w R ht) ?_)
  rintro e a1 w1 ⟨rfl, ρ1, ht1, hp1⟩
  obtain ⟨e, ts1, s1⟩ := r
  cases e with
  | normal => exact absurd rfl hne
  | exit id => exact ⟨rfl, ρ1, ht1, hp1⟩
  | goto l => exact ⟨rfl, ρ1, ht1, hp1⟩
  | ret => exact ⟨rfl, ρ1, ht1, hp1⟩
theorem block_exitC {id : Nat} {c : Code} {ts ts' : List AV} {s s' : AS} (hx : SoundC P c ts s ⟨.exit id, ts', s'⟩) : SoundC P (.block id c) ts s ⟨.normal, ts', s'⟩ := by
  intro B ρ a w R ht
  refine wp_block (wp_mono (hx B ρ a w R ht) ?_)
  rintro e a1 w1 ⟨rfl, ρ1, ht1, hp1⟩
  show (if id = id then _ else _)
  rw [if_pos rfl]
  exact ⟨rfl, ρ1, ht1, hp1⟩
theorem block_pastC {id : Nat} {c : Code} {ts : List AV} {s : AS} {r : Res} (hx : SoundC P c ts s r) (hid : r.e ≠ .exit id) : SoundC P (.block id c) ts s r := by
  intro B ρ a w R ht
  refine wp_block (wp_mono (hx B ρ a w R ht) ?_)
  rintro e a1 w1 ⟨rfl, ρ1, ht1, hp1⟩
  obtain ⟨e, ts1, s1⟩ := r
  cases e with
  | normal => exact ⟨rfl, ρ1, ht1, hp1⟩
  | exit id' =>
    show (if id' = id then _ else _)
    rw [if_neg (fun e => hid (by rw [e]))]
    exact ⟨rfl, ρ1, ht1, hp1⟩
  | goto l => exact ⟨rfl, ρ1, ht1, hp1⟩
  | ret => exact ⟨rfl, ρ1, ht1, hp1⟩
theorem scopeC {c : Code} {ts : List AV} {s : AS} {r : Res} (hx : SoundC P c ts s r) (hg : ∀ l, r.e ≠ .goto l) : SoundC P (.scope c) ts s r := (scope_sound (hx.sound hg)).2
theorem jumpC {c b : Code} {l : Nat} {ts ts1 : List AV} {s s1 : AS} {r : Res} (hf : findLabel c l = some b) (hx : SoundC P c ts s ⟨.goto l, ts1, s1⟩) (hy : SoundC P b ts1 s1 r) (hg : ∀ l, r.e ≠ .goto l) : SoundC P (.scope c) ts s r := by
  intro B ρ a w R ht
  refine wp_scope_jumps l (fun a' w' => ∃ ρ', TR ρ' ts1 a' ∧ Post P B ρ s w ρ' s1 w') (fun _ _ => 0) hf (wp_mono (hx B ρ a w R ht) ?_) ?_
  · rintro e a1 w1 ⟨rfl, ρ1, ht1, hp1⟩
    exact ⟨rfl, ρ1, ht1, hp1⟩
  · rintro a1 w1 ⟨ρ1, ht1, hp1⟩
    refine wp_mono (hy B ρ1 a1 w1 hp1.rel ht1) ?_
    rintro e a2 w2 ⟨rfl, ρ2, ht2, hp2⟩
    obtain ⟨e, ts2, s2⟩ := r
    cases e with
    | normal => exact ⟨rfl, ρ2, ht2, hp1.trans hp2⟩
    | exit id => exact ⟨rfl, ρ2, ht2, hp1.trans hp2⟩
    | goto l => exact absurd rfl (hg l)
    | ret => exact ⟨rfl, ρ2, ht2, hp1.trans hp2⟩
/-! ### code, turned -/
end
end Go.Mini.Fast
