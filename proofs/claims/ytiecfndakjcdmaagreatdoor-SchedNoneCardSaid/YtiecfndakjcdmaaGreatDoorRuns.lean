/- SchedNone runs to true, whatever is great or not. -/
import Derived.Test.YtiecfndakjcdmaaGreatDoorData
import Derived.Test.YtiecfndakjcdmaaGreatDoorE9
import Derived.Test.YtiecfndakjcdmaaGreatDoorGreat
namespace Go.Proofs.YtiecfndakjcdmaaGreatDoor
open Go Go.AE
set_option linter.unusedSectionVars false

noncomputable def eG (b : Bool) : Entry := ⟨5, [.opq 0], [], .bool b, [], 202⟩
noncomputable def tabS (b : Bool) (c : Nat) : Lk := .node (.node .nil 201 (eG b) .nil) c aeR .nil

set_option maxRecDepth 1000000 in
theorem runT : okTrue (run (evCall prog (tabS true 202).look 100000 3 [.opq 0]) (lay L .nil) 200 []) = true := by kernel_rfl
set_option maxRecDepth 1000000 in
theorem runF : okTrue (run (evCall prog (tabS false 279).look 100000 3 [.opq 0]) (lay L .nil) 200 []) = true := by kernel_rfl

theorem entry_great {v : Value} {b : Bool} (h : ∀ w, Calls prog 5 #[v] w fun e w' => e = .returned (.bool b) ∧ w' = w) : @EntryOK ⟨fun _ => v, fun _ => 0⟩ prog 201 (eG b) := by
  letI : Syms := ⟨fun _ => v, fun _ => 0⟩
  intro w0 S G h0 w vs sub H F gl hv
  obtain ⟨u, _, rfl, ⟨rfl, _⟩, rfl⟩ := hv
  refine ⟨⟨_, _, Tryz.func5, rfl⟩, fun ro m => callsIn_of_calls ?_ ro m⟩
  refine (h w).mono ?_
  rintro en w' ⟨rfl, rfl⟩
  exact ⟨G, Gh.le_refl _, H, rfl⟩

theorem tab_ok {v : Value} {b : Bool} {c : Nat} (hc : c ≤ 999) (h : ∀ w, Calls prog 5 #[v] w fun e w' => e = .returned (.bool b) ∧ w' = w) : @OracOK ⟨fun _ => v, fun _ => 0⟩ prog (tabS b c).look := by
  letI : Syms := ⟨fun _ => v, fun _ => 0⟩
  have e1 : EntryOK prog 201 (eG b) := @entry_great v b h
  have e2 : EntryOK prog 999 aeR := @aokR _
  have e3 : EntryOK prog c aeR := EntryOK.down @e2 hc
  exact look_ok (t := tabS b c) ⟨⟨trivial, @e1, trivial⟩, @e3, trivial⟩
end Go.Proofs.YtiecfndakjcdmaaGreatDoor
