/- Known calls of functions that the evaluator does not run: strings.Join, strings.Repeat, strings.Compare, maps.Clone, outcome.Key. -/
import Derived.Test.YtiecfndakjcdmaaGreatDoorBase
import Derived.Test.YtiecfndakjcdmaaGreatDoorKey
set_option linter.unusedSimpArgs false
set_option linter.unusedVariables false
namespace Go.Proofs.YtiecfndakjcdmaaGreatDoor
open Go Go.AE Go.RowKit
set_option linter.unusedSectionVars false

theorem joinOK : JoinOK prog 319 :=
  ⟨⟨_, _, Tryz.func319, rfl⟩, fun bk o c xs sep w h1 h2 h3 h4 h5 => Tryz.strings_Join bk o c xs sep w h1 h2 h3 h4 h5⟩
theorem repeatOK : RepeatOK prog 318 :=
  ⟨⟨_, _, Tryz.func318, rfl⟩, fun s c w h1 h2 => Tryz.strings_Repeat s c w h1 h2⟩
theorem compareOK : CompareOK prog 66 := ⟨⟨_, _, Tryz.func66, rfl⟩, fun a b w => Tryz.strings_Compare a b w⟩
theorem cloneOK79 : CloneOK prog 79 := ⟨⟨_, _, Tryz.func79, rfl⟩, fun b es clock w h => AnyW.maps_Clone Tryz.clone79 b es clock w h⟩

section
set_option linter.unusedSectionVars false
variable [Syms]

noncomputable def decA (n : Nat) : List Nat := bif Nat.blt n 10 then [48 + n] else [48 + n / 10, 48 + n % 10]
noncomputable def itemA (s : List Nat) : List Nat := decA s.length ++ (58 :: s)
noncomputable def itemsA : List (List Nat) → List Nat
  | [] => []
  | s :: r => itemA s ++ itemsA r
noncomputable def partA2 (l : List (List Nat)) : List Nat := decA l.length ++ (58 :: itemsA l)
noncomputable def smallA (l : List (List Nat)) : Bool := Nat.blt l.length 100 && l.all fun s => Nat.blt s.length 100

noncomputable def slA (h : Heap) : AV → Option (List (List Nat))
  | .nils => some []
  | .slg a e n => match h.at a 0 with
    | some (.blk N 1 true) => bif Nat.ble (e + n) N then strsA h a e n else none
    | _ => none
  | _ => none

noncomputable def chkKey (f c : Nat) (e : Entry) : Bool := Nat.beq e.f f && (Nat.blt c e.c' && (match e.args, e.writes, e.r with
  | [.agg [.str st, a1, a2, a3]], [], .str res => match slA (lay e.reads .nil) a1, slA (lay e.reads .nil) a2, slA (lay e.reads .nil) a3 with
    | some x1, some x2, some x3 => smallA [st] && (smallA x1 && (smallA x2 && (smallA x3 && (bytesOK res && beqS (partA2 [st] ++ (partA2 x1 ++ (partA2 x2 ++ partA2 x3))) res))))
    | _, _, _ => false
  | _, _, _ => false))

theorem decA_eq {n : Nat} (h : n < 100) : dec n = (decA n).map UInt8.ofNat := by
  unfold dec decA
  by_cases h1 : n < 10
  · rw [Lib.decDigits, dif_pos h1, show Nat.blt n 10 = true from by rw [Nat.blt_eq]; exact h1]; rfl
  · have h2 : Nat.blt n 10 = false := by
      cases hb : Nat.blt n 10 with
      | false => rfl
      | true => exact absurd (by rw [Nat.blt_eq] at hb; exact hb) h1
    rw [Lib.decDigits, dif_neg h1, Lib.decDigits, dif_pos (by omega), h2]; rfl

theorem itemA_eq {s : List Nat} (h : s.length < 100) : item (bytesA s) = (itemA s).map UInt8.ofNat := by
  unfold item itemA
  rw [bytesA_size, bytesA_data, decA_eq h, List.map_append, List.append_assoc]; rfl

theorem itemsA_eq : ∀ {l : List (List Nat)}, (∀ s ∈ l, s.length < 100) → items (l.map bytesA) = (itemsA l).map UInt8.ofNat
  | [], _ => rfl
  | s :: r, h => by
    have : items ((s :: r).map bytesA) = item (bytesA s) ++ items (r.map bytesA) := by simp [items]
    rw [this, itemA_eq (h s (by simp)), itemsA_eq (fun x hx => h x (by simp [hx]))]
    simp [itemsA]

theorem smallA_of {l : List (List Nat)} (h : smallA l = true) : l.length < 100 ∧ ∀ s ∈ l, s.length < 100 := by
  simp only [smallA, Bool.and_eq_true, Nat.blt_eq, List.all_eq_true] at h
  exact h

theorem partA_eq {l : List (List Nat)} (h : smallA l = true) : part (l.map bytesA) = (partA2 l).map UInt8.ofNat := by
  obtain ⟨h1, h2⟩ := smallA_of h
  unfold part partA2
  rw [List.length_map, decA_eq h1, itemsA_eq h2, List.map_append, List.append_assoc]; rfl

theorem small_of {l : List (List Nat)} (h : smallA l = true) : Small (l.map bytesA) := by
  obtain ⟨h1, h2⟩ := smallA_of h
  refine ⟨by rw [List.length_map]; exact h1, fun x hx => ?_⟩
  obtain ⟨s, hs, rfl⟩ := List.mem_map.1 hx
  rw [bytesA_size]; exact h2 s hs

theorem slA_rel {w0 : World} {S : Sx} {G : Gh} {h h0 : Heap} {w : World} (H : HR w0 S G h w) (sub : Sub h0 h) {a : AV} {xs : List (List Nat)} (ha : slA h0 a = some xs) {v : Value} (hv : VR G a v) : OldAt w v (xs.map bytesA) := by
  unfold slA at ha
  split at ha
  · cases ha
    have hv : v = .slice none 0 0 := hv
    subst hv
    exact ⟨none, 0, rfl, fun j x hx => by simp at hx⟩
  · rename_i a e n
    split at ha
    · rename_i N h0'
      cases hb : Nat.ble (e + n) N with
      | false => rw [hb] at ha; cases ha
      | true =>
        rw [hb] at ha
        have ha : strsA h0 a e n = some xs := ha
        rw [Nat.ble_eq] at hb
        obtain ⟨g, off, hg, rfl, hcap, hoff⟩ := hv
        obtain ⟨x1, x2⟩ := strsA_at ha
        obtain ⟨g1, cells, ty, fz, hg1, hr, hes, _, hnn, _, _, hcell, _⟩ := H.row a N 1 (sub _ _ _ h0')
        rw [hg] at hg1; cases hg1
        refine ⟨_, _, by rw [List.length_map, x1], fun j x hx => ?_⟩
        refine ⟨g.b, off, rfl, H.lt a g hg, ?_⟩
        simp only [List.getElem?_map, Option.map_eq_some_iff] at hx
        obtain ⟨y, hy, rfl⟩ := hx
        have hjl : j < n := by
          have := (List.getElem?_eq_some_iff.1 hy).1
          omega
        have hat := sub _ _ _ (x2 j y hy)
        obtain ⟨v', q1, q2⟩ := hcell (e + j) _ (by omega) hat
        obtain ⟨rfl, _⟩ := q2
        rw [AE.cell_of_row hr]
        rcases hoff with ho | ho
        · rw [ho, hes, Nat.mul_one, Nat.add_assoc]; exact q1
        · omega
    · cases ha
  · cases ha

theorem entry_key {c : Nat} {e : Entry} (hc : chkKey 27 c e = true) : EntryOK prog c e := by
  intro w0 S G h w vs sub H F gl hv
  obtain ⟨ef, args, reads, r, writes, c'⟩ := e
  unfold chkKey at hc
  simp only [Bool.and_eq_true] at hc
  obtain ⟨hf, hcc, hc⟩ := hc
  have hf := Nat.eq_of_beq_eq_true hf
  simp only at hf hcc hc hv sub F ⊢
  subst hf
  split at hc
  case h_2 => cases hc
  rename_i st a1 a2 a3 res
  split at hc
  case h_2 => cases hc
  rename_i x1 x2 x3 e1 e2 e3
  simp only [Bool.and_eq_true] at hc
  obtain ⟨s0, s1, s2, s3, hb, hk⟩ := hc
  have hk := beqS_eq hk
  obtain ⟨va, _, rfl, ⟨us, rfl, ust, _, rfl, ⟨rfl, _⟩, u1, _, rfl, hu1, u2, _, rfl, hu2, u3, _, rfl, hu3, rfl⟩, rfl⟩ := hv
  have hw := key_walk (bytesA st) u1 u2 u3 (x1.map bytesA) (x2.map bytesA) (x3.map bytesA) w (by
    intro l hl
    simp only [List.mem_cons, List.not_mem_nil, or_false] at hl
    rcases hl with rfl | rfl | rfl | rfl
    · exact small_of (l := [st]) s0
    · exact small_of s1
    · exact small_of s2
    · exact small_of s3) (slA_rel H sub e1 hu1) (slA_rel H sub e2 hu2) (slA_rel H sub e3 hu3)
  refine ⟨⟨_, _, Tryz.func27, rfl⟩, fun ro m => callsIn_of_calls ?_ ro m⟩
  refine hw.mono ?_
  rintro en w' ⟨rfl, hB⟩
  refine ⟨G, Gh.le_refl _, H.below hB, ?_, bytesOK_of hb⟩
  have : keyOf [[bytesA st], x1.map bytesA, x2.map bytesA, x3.map bytesA] = res.map UInt8.ofNat := by
    have q0 := partA_eq s0
    rw [← hk]
    simp only [keyOf, List.map_cons, List.map_nil, List.flatten_cons, List.flatten_nil, List.append_nil, List.map_append]
    rw [← partA_eq s1, ← partA_eq s2, ← partA_eq s3, ← q0]
    simp
  rw [this]
  rfl
end
end Go.Proofs.YtiecfndakjcdmaaGreatDoor
