/-
  Texts of this session, one behind the other: AmUtf8.
-/
import Derived.Test.YtbbkdhlfgekagaaDoorPart12
import Derived.Shelf.Unicode.DecodeAny
import Derived.Lib.LaidU8
namespace Go.Am
open Go

def firstC : List V := (List.range 256).map fun c => .int .u8 (Lib.firstT c)
def accC : List V := (List.range 32).map fun k => .int .u8 (if k % 2 = 0 then Lib.accLo (k / 2) else Lib.accHi (k / 2))
def utf8G (g3 g4 g : Nat) : Option (List V) := match Nat.beq g g3 with
  | true => some firstC
  | false => match Nat.beq g g4 with
    | true => some accC
    | false => none

variable {E : Env} {w : World} {g3 g4 : Nat}

theorem tabs_of_globs (h : Globs E w) (h3 : E.G g3 = some firstC) (h4 : E.G g4 = some accC) : Lib.Utf8Tabs g3 g4 w := by
  obtain ⟨_, _, C, e, z, hC, _, hi⟩ := h g3 _ h3
  obtain ⟨_, _, C', e', z', hC', _, hi'⟩ := h g4 _ h4
  refine ⟨fun c hc => ?_, fun i hc => ⟨?_, ?_⟩⟩
  · unfold World.cell?
    simp only [hC]
    exact hi c (.int .u8 (Lib.firstT c)) rho0 (by simp [firstC, hc])
  · unfold World.cell?
    simp only [hC']
    exact hi' (2 * i) (.int .u8 (Lib.accLo i)) rho0 (by
      have e1 : 2 * i % 2 = 0 := by omega
      have e2 : 2 * i / 2 = i := by omega
      simp only [accC, List.getElem?_map, List.getElem?_range (show 2 * i < 32 by omega), Option.map_some, e1, e2, if_true])
  · unfold World.cell?
    simp only [hC']
    exact hi' (2 * i + 1) (.int .u8 (Lib.accHi i)) rho0 (by
      have e1 : ¬ (2 * i + 1) % 2 = 0 := by omega
      have e2 : (2 * i + 1) / 2 = i := by omega
      simp only [accC, List.getElem?_map, List.getElem?_range (show 2 * i + 1 < 32 by omega), Option.map_some, if_neg e1, e2])

theorem cells_at {g k : Nat} {v : Value} (h : w.cell? ⟨g, k, none⟩ = some v) : g < w.heap.size ∧ ∃ C e z, w.heap[g]? = some (.cells C e z) := by
  unfold World.cell? at h
  split at h
  · rename_i C e z hC
    exact ⟨(Array.getElem?_eq_some_iff.1 hC).1, C, e, z, hC⟩
  · cases h

theorem globs_of_tabs (hG : ∀ g, E.G g = utf8G g3 g4 g) (h : Lib.Utf8Tabs g3 g4 w) (hs3 : ∀ C e z, w.heap[g3]? = some (.cells C e z) → C.size = 256) (hs4 : ∀ C e z, w.heap[g4]? = some (.cells C e z) → C.size = 32) : Globs E w := by
  intro g cs hg
  rw [hG] at hg
  unfold utf8G at hg
  split at hg
  · rename_i hb
    obtain rfl := Nat.eq_of_beq_eq_true hb
    cases hg
    obtain ⟨h1, C, e, z, hC⟩ := cells_at (h.1 0 (by omega))
    refine ⟨h1, fun v hv => ?_, C, e, z, hC, by rw [hs3 C e z hC]; simp [firstC], fun i v ρ hi => ?_⟩
    · obtain ⟨x, _, rfl⟩ := List.mem_map.1 hv
      exact ⟨rfl, rfl⟩
    · simp only [firstC, List.getElem?_map, Option.map_eq_some_iff] at hi
      obtain ⟨x, hx, rfl⟩ := hi
      obtain ⟨hx1, hx2⟩ := List.getElem?_eq_some_iff.1 hx
      simp only [List.length_range] at hx1
      simp only [List.getElem_range] at hx2
      subst hx2
      have := h.1 i hx1
      unfold World.cell? at this
      simp only [hC] at this
      exact this
  · split at hg
    · rename_i hb
      obtain rfl := Nat.eq_of_beq_eq_true hb
      cases hg
      obtain ⟨h1, C, e, z, hC⟩ := cells_at (h.2 0 (by omega)).1
      refine ⟨h1, fun v hv => ?_, C, e, z, hC, by rw [hs4 C e z hC]; simp [accC], fun i v ρ hi => ?_⟩
      · obtain ⟨x, _, rfl⟩ := List.mem_map.1 hv
        exact ⟨rfl, rfl⟩
      · simp only [accC, List.getElem?_map, Option.map_eq_some_iff] at hi
        obtain ⟨x, hx, rfl⟩ := hi
        obtain ⟨hx1, hx2⟩ := List.getElem?_eq_some_iff.1 hx
        simp only [List.length_range] at hx1
        simp only [List.getElem_range] at hx2
        subst hx2
        have := h.2 (i / 2) (by omega)
        unfold World.cell? at this
        simp only [hC] at this
        by_cases e : i % 2 = 0
        · rw [if_pos e]
          have := this.1
          rw [show 2 * (i / 2) = i by omega] at this
          exact this
        · rw [if_neg e]
          have := this.2
          rw [show 2 * (i / 2) + 1 = i by omega] at this
          exact this
    · cases hg

def decGo (s : List UInt8) : Nat × Nat := match s with
  | [] => (65533, 0)
  | a :: r => decode (a :: r)

theorem decGo_eq (s : List UInt8) : Lib.decodeGo ⟨⟨s⟩⟩ = decGo s := by
  unfold Lib.decodeGo decGo
  cases s with
  | nil => rfl
  | cons a r =>
    rw [if_neg (by simp [ByteArray.size]), decode_run _ _ (by simp)]
    rfl

def decArgs (f0 f : FuncId) (args : List V) : Option V := match Nat.beq f f0 with
  | true => match args with
    | [.str s] => some (.tup [.int .i32 (decGo s).1, .int .i64 (decGo s).2])
    | _ => none
  | false => none

theorem Env.Ok.withDec (ok : E.Ok) {ρ : Shelf.Ren} (L : Go.Proofs.Lays.n197 E.P ρ) (hne : ρ.g 4 ≠ ρ.g 3) :
    ({ E with G := utf8G (ρ.g 3) (ρ.g 4), orc := fun f a _ => decArgs (ρ.f 197) f a } : Env).Ok where
  mixed := ok.mixed
  names := ok.names
  ext := ok.ext
  same := ok.same
  made := ok.made
  orc f args H v h := by
    simp only [decArgs] at h
    split at h
    · rename_i hb
      obtain rfl := Nat.eq_of_beq_eq_true hb
      split at h
      · rename_i s
        cases h
        refine ⟨rfl, fun N ρ' w hw _ => ?_⟩
        have hg := hw.globs'
        have hT : Lib.Utf8Tabs (ρ.g 3) (ρ.g 4) w := tabs_of_globs hg
          (by show utf8G (ρ.g 3) (ρ.g 4) (ρ.g 3) = _; unfold utf8G; rw [show Nat.beq (ρ.g 3) (ρ.g 3) = true from Nat.beq_refl _])
          (by show utf8G (ρ.g 3) (ρ.g 4) (ρ.g 4) = _; unfold utf8G; rw [show Nat.beq (ρ.g 4) (ρ.g 3) = false from Bool.eq_false_iff.2 fun h => hne (Nat.eq_of_beq_eq_true h), show Nat.beq (ρ.g 4) (ρ.g 4) = true from Nat.beq_refl _])
        exact (Go.Proofs.Any.utf8_DecodeRuneInString L ⟨⟨s⟩⟩ w hT).mono fun e w' ⟨he, hb⟩ => ⟨by rw [he, decGo_eq]; rfl, hb⟩
      · cases h
    · cases h
end Go.Am
