/- The types and functions of this translation, as tables; conditions: none. -/
import Derived.Test.YtpjdppkcghmnhaaRows
import Derived.Test.YtpjdppkcghmnhaaUse
set_option maxRecDepth 100000
namespace Go.Proofs.Ytpjdppkcghmnhaa
open Eng
open Go
theorem tiMk {P : Program} {t : Nat} {ti : TI} {d : TypeDesc} {z : Value} (h : (P.info? t).map (fun i => (i.size, i.bytes, i.zero)) = some (ti.size, ti.bytes, some z))
    (hu : P.underlying t = some d) (hd : ti.d.is d) (hz : z.cells.toList = ti.zero) (hl : ti.zero.length = ti.size) : TiOk P t ti := by
  cases hi : P.info? t with
  | none => simp [hi] at h
  | some i =>
    simp [hi] at h
    exact ⟨i, d, z, hi, hu, hd, h.1, h.2.1, h.2.2, hz, hl⟩
theorem fnMk {P : Program} {f : Nat} {fn : Func} (h : P.funcs[f]? = some fn) (h1 : (fn.name == "runtime.NumGoroutine") = false) (h2 : fn.body.isNone = false) : FnOk P f := ⟨fn, h, h1, h2⟩
theorem ti2 : TiOk Try.prog 2 ⟨.int .i64, 1, 8, [.int .i64 0]⟩ := tiMk (z := .int .i64 0) (by as_aux_lemma => kernel_rfl) Try.underlying2 rfl rfl rfl
theorem ti3 : TiOk Try.prog 3 ⟨.int .i64, 1, 8, [.int .i64 0]⟩ := tiMk (z := .int .i64 0) (by as_aux_lemma => kernel_rfl) Try.underlying3 rfl rfl rfl
theorem ti4 : TiOk Try.prog 4 ⟨.bool, 1, 1, [.bool false]⟩ := tiMk (z := .bool false) (by as_aux_lemma => kernel_rfl) Try.underlying4 rfl rfl rfl
theorem ti5 : TiOk Try.prog 5 ⟨.int .u8, 1, 1, [.int .u8 0]⟩ := tiMk (z := .int .u8 0) (by as_aux_lemma => kernel_rfl) Try.underlying5 rfl rfl rfl
theorem ti12 : TiOk Try.prog 12 ⟨.int .u64, 1, 8, [.int .u64 0]⟩ := tiMk (z := .int .u64 0) (by as_aux_lemma => kernel_rfl) Try.underlying12 rfl rfl rfl
theorem ti21 : TiOk Try.prog 21 ⟨.int .i32, 1, 4, [.int .i32 0]⟩ := tiMk (z := .int .i32 0) (by as_aux_lemma => kernel_rfl) Try.underlying21 rfl rfl rfl
theorem ti25 : TiOk Try.prog 25 ⟨.slice 5, 1, 24, [.slice none 0 0]⟩ := tiMk (z := .slice none 0 0) (by as_aux_lemma => kernel_rfl) Try.underlying25 rfl rfl rfl
theorem ti36 : TiOk Try.prog 36 ⟨.slice 3, 1, 24, [.slice none 0 0]⟩ := tiMk (z := .slice none 0 0) (by as_aux_lemma => kernel_rfl) Try.underlying36 rfl rfl rfl
theorem ti37 : TiOk Try.prog 37 ⟨.struct [(25, 0), (3, 1)], 2, 32, [.slice none 0 0, .int .i64 0]⟩ := tiMk (z := .agg #[.slice none 0 0, .int .i64 0]) (by as_aux_lemma => kernel_rfl) Try.underlying37 ⟨_, rfl, rfl⟩ rfl rfl
theorem ti38 : TiOk Try.prog 38 ⟨.struct [(25, 0), (3, 1)], 2, 32, [.slice none 0 0, .int .i64 0]⟩ := tiMk (z := .agg #[.slice none 0 0, .int .i64 0]) (by as_aux_lemma => kernel_rfl) Try.underlying38 ⟨_, rfl, rfl⟩ rfl rfl
theorem ti46 : TiOk Try.prog 46 ⟨.int .u32, 1, 4, [.int .u32 0]⟩ := tiMk (z := .int .u32 0) (by as_aux_lemma => kernel_rfl) Try.underlying46 rfl rfl rfl
def tab : Tab := [(2, ⟨.int .i64, 1, 8, [.int .i64 0]⟩), (3, ⟨.int .i64, 1, 8, [.int .i64 0]⟩), (4, ⟨.bool, 1, 1, [.bool false]⟩), (5, ⟨.int .u8, 1, 1, [.int .u8 0]⟩), (12, ⟨.int .u64, 1, 8, [.int .u64 0]⟩), (21, ⟨.int .i32, 1, 4, [.int .i32 0]⟩), (25, ⟨.slice 5, 1, 24, [.slice none 0 0]⟩), (36, ⟨.slice 3, 1, 24, [.slice none 0 0]⟩), (37, ⟨.struct [(25, 0), (3, 1)], 2, 32, [.slice none 0 0, .int .i64 0]⟩), (38, ⟨.struct [(25, 0), (3, 1)], 2, 32, [.slice none 0 0, .int .i64 0]⟩), (46, ⟨.int .u32, 1, 4, [.int .u32 0]⟩)]
theorem tabOk : TabOk Try.prog tab := ⟨ti2, ti3, ti4, ti5, ti12, ti21, ti25, ti36, ti37, ti38, ti46, trivial⟩
theorem fn3 : FnOk Try.prog 3 := fnMk Try.func3 (by as_aux_lemma => kernel_rfl) (by as_aux_lemma => kernel_rfl)
theorem fn4 : FnOk Try.prog 4 := fnMk Try.func4 (by as_aux_lemma => kernel_rfl) (by as_aux_lemma => kernel_rfl)
theorem fn5 : FnOk Try.prog 5 := fnMk Try.func5 (by as_aux_lemma => kernel_rfl) (by as_aux_lemma => kernel_rfl)
theorem fn6 : FnOk Try.prog 6 := fnMk Try.func6 (by as_aux_lemma => kernel_rfl) (by as_aux_lemma => kernel_rfl)
theorem fn7 : FnOk Try.prog 7 := fnMk Try.func7 (by as_aux_lemma => kernel_rfl) (by as_aux_lemma => kernel_rfl)
theorem fn8 : FnOk Try.prog 8 := fnMk Try.func8 (by as_aux_lemma => kernel_rfl) (by as_aux_lemma => kernel_rfl)
theorem fn9 : FnOk Try.prog 9 := fnMk Try.func9 (by as_aux_lemma => kernel_rfl) (by as_aux_lemma => kernel_rfl)
theorem fn10 : FnOk Try.prog 10 := fnMk Try.func10 (by as_aux_lemma => kernel_rfl) (by as_aux_lemma => kernel_rfl)
theorem fn11 : FnOk Try.prog 11 := fnMk Try.func11 (by as_aux_lemma => kernel_rfl) (by as_aux_lemma => kernel_rfl)
theorem fn12 : FnOk Try.prog 12 := fnMk Try.func12 (by as_aux_lemma => kernel_rfl) (by as_aux_lemma => kernel_rfl)
theorem fn13 : FnOk Try.prog 13 := fnMk Try.func13 (by as_aux_lemma => kernel_rfl) (by as_aux_lemma => kernel_rfl)
theorem fn14 : FnOk Try.prog 14 := fnMk Try.func14 (by as_aux_lemma => kernel_rfl) (by as_aux_lemma => kernel_rfl)
theorem fn15 : FnOk Try.prog 15 := fnMk Try.func15 (by as_aux_lemma => kernel_rfl) (by as_aux_lemma => kernel_rfl)
theorem fn16 : FnOk Try.prog 16 := fnMk Try.func16 (by as_aux_lemma => kernel_rfl) (by as_aux_lemma => kernel_rfl)
theorem fn17 : FnOk Try.prog 17 := fnMk Try.func17 (by as_aux_lemma => kernel_rfl) (by as_aux_lemma => kernel_rfl)
theorem fn18 : FnOk Try.prog 18 := fnMk Try.func18 (by as_aux_lemma => kernel_rfl) (by as_aux_lemma => kernel_rfl)
theorem fn19 : FnOk Try.prog 19 := fnMk Try.func19 (by as_aux_lemma => kernel_rfl) (by as_aux_lemma => kernel_rfl)
def fns : List Nat := [3, 4, 5, 6, 7, 8, 9, 10, 11, 12, 13, 14, 15, 16, 17, 18, 19]
theorem fnsOk : FnsOk Try.prog fns := ⟨fn3, fn4, fn5, fn6, fn7, fn8, fn9, fn10, fn11, fn12, fn13, fn14, fn15, fn16, fn17, fn18, fn19, trivial⟩
@[reducible] noncomputable def cxS (w : World) (S : List Nat) : Cx := ⟨Try.prog, tab, fns, w, S⟩
theorem okS (w : World) (S : List Nat) : (cxS w S).Ok := ⟨tabOk, fnsOk, by as_aux_lemma => kernel_rfl⟩
end Go.Proofs.Ytpjdppkcghmnhaa
